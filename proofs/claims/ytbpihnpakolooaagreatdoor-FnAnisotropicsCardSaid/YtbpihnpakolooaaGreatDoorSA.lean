
/- The walk of the law FnAnisotropics. -/
import Derived.Test.YtbpihnpakolooaaGreatDoorSla
import Derived.Test.YtbpihnpakolooaaGreatDoorANa
import Derived.Test.YtbpihnpakolooaaGreatDoorAEa
import Derived.Test.YtbpihnpakolooaaGreatDoorMWx
import Derived.Deep.CutRange
namespace Go.Proofs.YtbpihnpakolooaaGreatDoor
open Go Go.RowKit Grp
set_option linter.unusedSimpArgs false
set_option linter.unusedVariables false
theorem gbI_rng (os : List Int) (D : Int) (vs : List Int) (hv : vs.length ≤ 64) : (∀ x ∈ ifM os D vs (bestL vs.length (isoK os vs)), i64ok x) ∧ (ifM os D vs (bestL vs.length (isoK os vs))).length ≤ 64 := by
 refine ⟨fun x hx => ?_, ?_⟩
 ·unfold ifM at hx
  split at hx
  ·have := bestL_mem (N := vs.length) (isoK os vs) x hx; exact ⟨by omega, by omega⟩
  ·cases hx
 ·unfold ifM
  split
  ·exact Nat.le_trans (bestL_len _ _) hv
  ·simp
theorem ifK_ok (os : List Int) (D : Int) (vs ms : List Int) (hs : ∀ m ∈ ms, m ∈ sgK os vs.length) (hl : ms.length ≤ (sgK os vs.length).length) : (∀ x ∈ ifM os D vs ms, i64ok x) ∧ (ifM os D vs ms).length ≤ 65536 := by
 refine ⟨ifM_all fun _ x hx => hs x hx, ?_⟩
 unfold ifM
 split
 ·rename_i h
  exact Nat.le_trans hl (sgK_len ((isM_iff.1 h).ok.lt))
 ·simp
set_option maxRecDepth 100000 in
set_option maxHeartbeats 32000000 in
theorem law_Anisotropics {w : World} (hT : Tb w) (A : Option Addr) (n c : Nat) (bs : List Int) (h : BlIn w A n c bs) : Calls Tryz.prog 4 #[.slice A n c] w (Re w (.bool true)) := by
 by_cases hn0 : 4096 < n
 ·have hd : decide (4096 < (n : Int)) = true := decide_eq_true (by omega)
  have Hd := hide hd
  clear hd
  go_enter Tryz.func4, Tryz.ntmps4
  go_wp2_with fail
  refine (big_any _ A n c).mono ?_
  rintro e w1 ⟨rfl, m, rfl⟩
  rw [Hd.out]
  go_wp2
  go_ret
  exact ⟨rfl, (by repeat (first | assumption | exact Below.refl _ _ | apply below_drewN | apply Below.drew | apply Below.alloc | apply Below.setCell | omega | (focus (simp; done)) | (focus (simp; omega))))⟩
 ·have hn : n ≤ 4096 := by omega
  have hd : decide (4096 < (n : Int)) = false := decide_eq_false (by omega)
  have Hd := hide hd
  clear hd
  have hS := h.sl
  go_enter Tryz.func4, Tryz.ntmps4
  go_wp2_with fail
  refine (big_any _ A n c).mono ?_
  rintro e w1 ⟨rfl, m, rfl⟩
  rw [Hd.out]
  have kk : Below w.heap.size w (w.drewN m) := below_drewN (Below.refl _ _) _
  obtain ⟨w1, hw1⟩ : ∃ w1, w.drewN m = w1 := ⟨_, rfl⟩
  rw [hw1] at kk ⊢
  clear hw1
  have hsz := kk.size
  have hb1 : SlB w1 w1.heap.size A n c bs := ⟨hS.len, hS.cap, hS.rng, fun h0 => by
   obtain ⟨b, off, e, hlt, hc⟩ := hS.at_ h0
   exact ⟨b, off, e, by omega, fun k hk => (kk.cell (p := ⟨b, off + k, none⟩) hlt).trans (hc k hk)⟩⟩
  go_wp2_with fail
  refine (drawGreatest_any w1 A n c bs hb1 hn).mono ?_
  rintro e w2 ⟨A1, c1, A2, c2, os, q, vs, rfl, hG, s1, s2, hb2⟩
  have kk2 := kk.trans (hb2.mono hsz)
  have hM := GM.new (q := q) s1 s2 kk2
  have lo := hG.o
  have lv := hG.v
  clear s1 s2 hb2
  obtain ⟨w3, hw3⟩ : ∃ w3, w2.alloc (.cells #[.slice A1 os.length c1, .int .i64 q, .slice A2 vs.length c2] 26) = w3 := ⟨_, rfl⟩
  rw [hw3] at hM
  obtain ⟨M, hMe⟩ : ∃ M, w2.heap.size = M := ⟨_, rfl⟩
  rw [hMe] at hM
  have HG := hide (gbI_rng os q vs lv)
  have HI := hide (ifK_ok os q vs (isoK os vs) isoK_sub (isoK_len os vs))
  have HL := hide (ifK_ok os q vs (lagK os q vs) lagK_sub (Nat.le_trans (List.length_filter_le _ _) (isoK_len os vs)))
  have hMb := hM.b
  have x0 := hMb.cell 0
  have x1 := hMb.cell 1
  have x2 := hMb.cell 2
  go_wp2_with fail
  clear hMb x0 x1 x2
  refine (impl_GI_any _ _ _ _ os q _ _ _ vs hM.s1 hM.s2 (by omega) (by omega) (hT.bel hM.kk)).mono ?_
  rintro e wn ⟨v1, rfl, o1, hbn⟩
  replace hM := hM.all hbn
  obtain ⟨R1, d1, rfl, sG⟩ := o1.sl HG.out.1
  clear hw3 hMe o1 hbn
  have hMb := hM.b
  have x0 := hMb.cell 0
  have x1 := hMb.cell 1
  have x2 := hMb.cell 2
  go_wp2_with fail
  clear hMb x0 x1 x2
  refine (spec_GI_any _ _ _ _ os q _ _ _ vs hM.s1 hM.s2 (by omega) (by omega)).mono ?_
  rintro e wn ⟨v1, rfl, o1, hbn⟩
  replace hM := hM.all hbn
  obtain ⟨R2, d2, rfl, sH⟩ := o1.sl HG.out.1
  replace sG := sG.mov hbn
  clear o1 hbn
  have hMb := hM.b
  have x0 := hMb.cell 0
  have x1 := hMb.cell 1
  have x2 := hMb.cell 2
  go_wp2_with fail
  clear hMb x0 x1 x2
  refine (impl_IM_any _ _ _ _ os q _ _ _ vs hM.s1 hM.s2 (by omega) (by omega) (hT.bel hM.kk)).mono ?_
  rintro e wn ⟨v1, rfl, o1, hbn⟩
  replace hM := hM.all hbn
  obtain ⟨R3, d3, rfl, sI⟩ := o1.sl HI.out.1
  replace sG := sG.mov hbn
  replace sH := sH.mov hbn
  clear o1 hbn
  have hMb := hM.b
  have x0 := hMb.cell 0
  have x1 := hMb.cell 1
  have x2 := hMb.cell 2
  go_wp2_with fail
  clear hMb x0 x1 x2
  refine (spec_IM_any _ _ _ _ os q _ _ _ vs hM.s1 hM.s2 (by omega) (by omega)).mono ?_
  rintro e wn ⟨v1, rfl, o1, hbn⟩
  replace hM := hM.all hbn
  obtain ⟨R4, d4, rfl, sJ⟩ := o1.sl HI.out.1
  replace sG := sG.mov hbn
  replace sH := sH.mov hbn
  replace sI := sI.mov hbn
  clear o1 hbn
  have hMb := hM.b
  have x0 := hMb.cell 0
  have x1 := hMb.cell 1
  have x2 := hMb.cell 2
  go_wp2_with fail
  clear hMb x0 x1 x2
  refine (impl_LgM_any _ _ _ _ os q _ _ _ vs hM.s1 hM.s2 (by omega) (by omega) (hT.bel hM.kk)).mono ?_
  rintro e wn ⟨v1, rfl, o1, hbn⟩
  replace hM := hM.all hbn
  obtain ⟨R5, d5, rfl, sL⟩ := o1.sl HL.out.1
  replace sG := sG.mov hbn
  replace sH := sH.mov hbn
  replace sI := sI.mov hbn
  replace sJ := sJ.mov hbn
  clear o1 hbn
  have hMb := hM.b
  have x0 := hMb.cell 0
  have x1 := hMb.cell 1
  have x2 := hMb.cell 2
  go_wp2_with fail
  clear hMb x0 x1 x2
  refine (spec_LgM_any _ _ _ _ os q _ _ _ vs hM.s1 hM.s2 (by omega) (by omega)).mono ?_
  rintro e wn ⟨v1, rfl, o1, hbn⟩
  replace hM := hM.all hbn
  obtain ⟨R6, d6, rfl, sK⟩ := o1.sl HL.out.1
  replace sG := sG.mov hbn
  replace sH := sH.mov hbn
  replace sI := sI.mov hbn
  replace sJ := sJ.mov hbn
  replace sL := sL.mov hbn
  clear o1 hbn
  have hMb := hM.b
  have x0 := hMb.cell 0
  have x1 := hMb.cell 1
  have x2 := hMb.cell 2
  go_wp2_with fail
  clear hMb x0 x1 x2
  refine (impl_Ani_any _ _ _ _ os q _ _ _ vs hM.s1 hM.s2 (by omega) (by omega)).mono ?_
  rintro e wn ⟨rfl, hbn⟩
  replace hM := hM.all hbn
  replace sG := sG.mov hbn
  replace sH := sH.mov hbn
  replace sI := sI.mov hbn
  replace sJ := sJ.mov hbn
  replace sL := sL.mov hbn
  replace sK := sK.mov hbn
  clear hbn
  have hG6 : (ifM os q vs (bestL vs.length (isoK os vs))).length ≤ 64 := HG.out.2
  have hI6 : (ifM os q vs (isoK os vs)).length ≤ 65536 := HI.out.2
  have hL6 : (ifM os q vs (lagK os q vs)).length ≤ 65536 := HL.out.2
  clear HG HI HL
  obtain ⟨O, hO⟩ : ∃ k, ifM os q vs (bestL vs.length (isoK os vs)) = k := ⟨_, rfl⟩
  obtain ⟨Ms, hMs⟩ : ∃ k, ifM os q vs (isoK os vs) = k := ⟨_, rfl⟩
  obtain ⟨Ls, hLs⟩ : ∃ k, ifM os q vs (lagK os q vs) = k := ⟨_, rfl⟩
  obtain ⟨K, hK⟩ : ∃ k, codeM os q vs = k := ⟨_, rfl⟩
  obtain ⟨Pl, hPl⟩ : ∃ k, (isM os q vs && aniB vs) = k := ⟨_, rfl⟩
  rw [hO] at sG sH hG6
  rw [hMs] at sI sJ hI6
  rw [hLs] at sL sK hL6
  rw [hO, hMs, hLs, hK, hPl]
  have HO := hide hO
  have HMs := hide hMs
  have HK := hide hK
  have HPl := hide hPl
  clear hO hMs hLs hK hPl
  go_wp2_with fail
  refine (likeInts_any _ _ _ _ _ _ _ _ _ _ _ sG sH (by omega)).mono ?_
  rintro e wa ⟨rfl, dm, hdm⟩
  have hbl : Below wn.heap.size wn wa := hdm ▸ below_drewN (Below.refl _ _) _
  clear hdm
  replace hM := hM.all hbl
  replace sG := sG.mov hbl
  replace sI := sI.mov hbl
  replace sJ := sJ.mov hbl
  replace sL := sL.mov hbl
  replace sK := sK.mov hbl
  clear hbl sH
  simp only [beq_self_eq_true]
  go_wp2_with fail
  refine (likeInts_any _ _ _ _ _ _ _ _ _ _ _ sI sJ (by omega)).mono ?_
  rintro e wb ⟨rfl, dm, hdm⟩
  have hbl : Below wa.heap.size wa wb := hdm ▸ below_drewN (Below.refl _ _) _
  clear hdm
  replace hM := hM.all hbl
  replace sG := sG.mov hbl
  replace sI := sI.mov hbl
  replace sL := sL.mov hbl
  replace sK := sK.mov hbl
  clear hbl sJ
  simp only [beq_self_eq_true]
  go_wp2_with fail
  refine (likeInts_any _ _ _ _ _ _ _ _ _ _ _ sL sK (by omega)).mono ?_
  rintro e we ⟨rfl, dm, hdm⟩
  have hbl : Below wb.heap.size wb we := hdm ▸ below_drewN (Below.refl _ _) _
  clear hdm
  replace hM := hM.all hbl
  replace sG := sG.mov hbl
  replace sI := sI.mov hbl
  clear hbl sL sK
  simp only [beq_self_eq_true]
  go_upto_if 115 with fail
  go_cut [] from 116 to 117 (fun wx => Below w.heap.size w wx)
  case first =>
   by_cases hK0 : K = 0
   ·subst hK0
    have him : isM os q vs = true := by
     cases hm : isM os q vs with
     | true => rfl
     | false => have := HK.out; unfold codeM at this; rw [hm] at this; simp at this
    have IM := isM_iff.1 him
    have hOe : bestL vs.length (isoK os vs) = O := by have := HO.out; unfold ifM at this; rwa [if_pos him] at this
    have hMe : isoK os vs = Ms := by have := HMs.out; unfold ifM at this; rwa [if_pos him] at this
    have hPe : aniB vs = Pl := by have := HPl.out; rwa [him, Bool.true_and] at this
    obtain ⟨hC, hlt, hmax⟩ := best_mx IM
    rw [hOe] at hC hlt hmax
    have hMx := Mx.of IM hC hlt hmax
    have hI := code_cs IM hC hlt
    have hPd := mx_plain IM hMx
    rw [hPe] at hPd
    obtain ⟨hv0, hv1, hv2⟩ := an_values IM hMx
    have hvl : (voR os q vs O).length ≤ 64 := by
     have h1 := cq_len os q vs O lv
     rw [cd_q hI] at h1
     rw [(cd_vals hI).1]
     exact h1.1
    have hvr : ∀ x ∈ voR os q vs O, i64ok x := fun x hx => by
     obtain ⟨y, hy, rfl⟩ := List.mem_map.1 ((cd_vals hI).2.mem_iff.1 hx)
     have hy2 := ldP_rng hI hy
     have hl := IM.ok.len
     have hd := IM.ok.d2
     have := Vl_rng IM hy2.2.1 (show y < vs.length by omega)
     exact ⟨by omega, by omega⟩
    have hcm := codeM_t him
    have hnd := ndgM_iff IM
    have hN16 : vs.length ≤ 16 := IM.ok.lt
    have HIM := hide IM
    have HI := hide hI
    have HMax := hide hmax
    have HMx := hide hMx
    have HPd := hide hPd
    have Hv1 := hide hv1
    have Hv2 := hide hv2
    have Hvr := hide hvr
    have Hcm := hide hcm
    have Hnd := hide hnd
    have HMe := hide hMe
    clear him IM hOe hMe hPe hC hlt hmax hMx hI hPd hv1 hv2 hvr hcm hnd
    have hMb := hM.b
    have x0 := hMb.cell 0
    have x1 := hMb.cell 1
    have x2 := hMb.cell 2
    go_wp2_with fail
    clear hMb x0 x1 x2
    refine (impl_Ndg_any _ _ _ _ os q _ _ _ vs hM.s1 hM.s2 (by omega) (by omega)).mono ?_
    rintro e wn ⟨rfl, hbn⟩
    replace hM := hM.all hbn
    rw [Hcm.out]
    replace sG := sG.mov hbn
    replace sI := sI.mov hbn
    clear hbn
    have hMb := hM.b
    have x0 := hMb.cell 0
    have x1 := hMb.cell 1
    have x2 := hMb.cell 2
    go_wp2_with fail
    clear hMb x0 x1 x2
    refine (impl_VO_any _ _ _ _ os q _ _ _ vs _ _ _ O hM.s1 hM.s2 sG (by omega) (by omega) (by omega)).mono ?_
    rintro e wn ⟨v1, rfl, o1, hbn⟩
    replace hM := hM.all hbn
    rw [HI.out]
    obtain ⟨R7, d7, rfl, sV⟩ := o1.sl Hvr.out
    replace sI := sI.mov hbn
    clear o1 hbn sG
    obtain ⟨V, hV⟩ : ∃ V, voR os q vs O = V := ⟨_, rfl⟩
    obtain ⟨bN, hbN⟩ : ∃ k, ndgM os q vs = k := ⟨_, rfl⟩
    rw [hV] at sV hvl hv0 Hv1 Hv2
    rw [hV, hbN]
    have HV := hide hV
    have HbN := hide hbN
    clear hV hbN
    go_upto_region 16 with fail
    go_cut [140] from 127 to 140 (fun v wx => v = .bool false ∧ GM w M A1 c1 A2 c2 os q vs wx ∧ Sl wx wx.heap.size R3 Ms.length d3 Ms ∧ Sl wx wx.heap.size R7 V.length d7 V)
    case first =>
     by_cases hO1 : O.length = 1
     ·obtain rfl : Pl = true := HPd.out.trans (decide_eq_true hO1)
      have hO1i : (O.length : Int) = 1 := by omega
      clear hO1
      go_wp2_with fail
      go_meet
      exact ⟨by simp, hM, sI, sV⟩
     ·obtain rfl : Pl = false := HPd.out.trans (decide_eq_false hO1)
      clear hO1
      go_wp2_with fail
      go_meet
      exact ⟨by simp, hM, sI, sV⟩
    case rest =>
     clear hM sI sV
     obtain ⟨rfl, hM, sI, sV⟩ := hcut
     cases bN with
     | false =>
      go_wp2_with fail
      go_meet
      exact hM.kk
     | true =>
      have hNd : Ndg os q vs := Hnd.out.1 HbN.out
      have HNd := hide hNd
      clear hNd
      go_upto_region 19 with fail
      go_cut [168] from 142 to 168 (fun v wx => v = .bool false ∧ GM w M A1 c1 A2 c2 os q vs wx ∧ Sl wx wx.heap.size R3 Ms.length d3 Ms ∧ Sl wx wx.heap.size R7 V.length d7 V)
      case first =>
       obtain ⟨bV, oV, rfl, hbV, hcV⟩ := sV.at_ (by omega)
       have cv0 := hcV 0 (by omega)
       have hcapV := sV.cap
       rw [Hv1.out] at cv0
       have cv2 := cv0
       rw [Nat.add_zero] at cv2
       have hv0j : 0 < V.length := by omega
       have hv0k : (0 : Int) < (V.length : Int) := by omega
       have hv0i : ¬ (V.length : Int) = 0 := by omega
       have hPO : (Pl != ((O.length : Int) == 1)) = false := by
        rw [HPd.out]
        by_cases hO1 : O.length = 1
        ·rw [decide_eq_true hO1, hO1]; rfl
        ·rw [decide_eq_false hO1, show ((O.length : Int) == 1) = false from beq_eq_false_iff_ne.2 (by omega)]; rfl
       by_cases hV1 : 1 < V.length
       ·have cv1 := hcV 1 hV1
        have hne := Hv2.out hV1
        have hV1i : (1 : Int) < (V.length : Int) := by omega
        obtain ⟨x1, hx1⟩ : ∃ x, gi V 1 = x := ⟨_, rfl⟩
        rw [hx1] at cv1 hne
        have hneb : (x1 == 0) = false := beq_eq_false_iff_ne.2 hne
        clear hx1 hcV
        go_wp2_with fail
        go_meet
        exact ⟨by have hVn : ¬ V = [] := fun e => by rw [e] at hv0j; simp at hv0j
                  simpa [hVn] using hPO, hM, sI, sV⟩
       ·have hV1i : ¬ (1 : Int) < (V.length : Int) := by omega
        clear hcV
        go_wp2_with fail
        go_meet
        exact ⟨by have hVn : ¬ V = [] := fun e => by rw [e] at hv0j; simp at hv0j
                  simpa [hVn] using hPO, hM, sI, sV⟩
      case rest =>
       clear hM sI sV
       obtain ⟨rfl, hM, sI, sV⟩ := hcut
       go_wp2_with fail
       have HRG := hide (show ∀ x ∈ Ms, 0 ≤ x ∧ x < 2 ^ vs.length ∧ x < 65536 from fun x hx => sgK_rng hN16 x (isoK_sub x (HMe.out.symm ▸ hx)))
       go_loopw [22] (fun i wr => ∃ k : Nat, k ≤ Ms.length ∧ i = .int .i64 k ∧ GM w M A1 c1 A2 c2 os q vs wr ∧ Sl wr wr.heap.size R3 Ms.length d3 Ms ∧ Sl wr wr.heap.size R7 V.length d7 V) (fun i _ => Ms.length - (intOf i).toNat)
       case atStart => exact ⟨0, by omega, rfl, hM, sI, sV⟩
       case round =>
        clear hM sI sV
        obtain ⟨k, hk, rfl, hM, sI, sV⟩ := hrel
        by_cases hlt : k < Ms.length
        ·have hmem := gi_mem hlt
         have hrg := HRG.out _ hmem
         have hcs : Cs os q vs (mems vs.length (gi Ms k).toNat) ∧ (mems vs.length (gi Ms k).toNat).Pairwise (· < ·) := iso_cs HIM.out (by rw [HMe.out]; exact hmem)
         obtain ⟨b, off, rfl, hb, hc⟩ := sI.at_ (by omega)
         have cx := hc k hlt
         obtain ⟨m, hm⟩ := Int.eq_ofNat_of_zero_le hrg.1
         rw [hm] at cx hrg hcs
         rw [Int.toNat_natCast] at hcs
         have hm6 : m < 65536 := by omega
         have hcapI := sI.cap
         have HCS := hide hcs
         clear hm hrg hcs hmem hc
         have hO2 : Ow (wr.alloc (.cells #[] 2)) wr.heap.size (.slice (some ⟨wr.heap.size, 0, none⟩) 0 0) [] := Ow.made' (xs := []) wr #[] wr.heap.size 0 rfl rfl (Nat.le_refl _) rfl (by unfold maxLen; omega)
         have hB2 : Below wr.heap.size wr (wr.alloc (.cells #[] 2)) := (Below.refl _ _).alloc (Nat.le_refl _) _
         obtain ⟨G, hGe⟩ : ∃ G, wr.heap.size = G := ⟨_, rfl⟩
         have hM0 := hM
         have sI0 := sI
         have sV0 := sV
         go_wp2_with fail
         rw [hGe] at hO2 hB2
         have HG := hide hGe
         clear hGe hM sI sV
         go_loopw [23, 24] (fun o i wq => ∃ (j : Nat) (vv : Value), j ≤ vs.length ∧ i = .int .i64 j ∧ vv = o ∧ Ow wq G vv (mems j m) ∧ Below G wr wq) (fun _ i _ => vs.length - (intOf i).toNat)
         case atStart => exact ⟨0, _, by omega, rfl, rfl, hO2, hB2⟩
         case round =>
          clear hO2 hB2
          obtain ⟨j, vv, hj, rfl, rfl, hO, hBe⟩ := hrel
          have hM := hM0.all (HG.out.symm ▸ hBe)
          have hMb := hM.b
          have x2 := hMb.cell 2
          by_cases hlj : j < vs.length
          ·have HS := hide (mems_snoc j m)
           have hl := mems_len j m
           have cy := (hBe.cell (p := ⟨b, off + k, none⟩) (HG.out ▸ hb)).trans cx
           obtain ⟨qs, hqs⟩ : ∃ q, mems j m = q := ⟨_, rfl⟩
           rw [hqs] at hO HS hl
           clear hqs
           have hc1 : IntKind.u64.wrap (j : Int) = (j : Int) := by rw [IntKind.wrap_u64]; omega
           obtain ⟨U, hU⟩ : ∃ U : Nat, m / 2 ^ j = U := ⟨_, rfl⟩
           have hU2 : U ≤ m := by rw [← hU]; exact Nat.div_le_self _ _
           have hs : (m : Int) / (2 : Int) ^ j = (U : Int) := by
            rw [← hU, show (2 : Int) ^ j = ((2 ^ j : Nat) : Int) from (Int.natCast_pow 2 j).symm]; rfl
           have hb := shr_bit m j
           rw [hU] at hb
           have ha : bits .and .i64 (U : Int) 1 = ((U &&& 1 : Nat) : Int) := and64 (a := U) (b := 1) (by omega) (by omega)
           rw [hb] at ha
           clear hb hU
           have hGz : G ≤ wr.heap.size := HG.out ▸ hBe.size
           cases ht : m.testBit j with
           | true =>
            rw [ht] at ha HS
            simp only [if_true] at ha HS
            go_wp2_with (at_builtin; refine list_push _ rfl _ _ rfl G _ _ rfl (hO.alloc _) j _ _ rfl (Blk.new _ _ _) (by omega) (Nat.le_trans hGz (by simp)) (by simp) ?_; intro g' cap' w4 hP4)
            go_roundw
            case rel => exact ⟨j + 1, _, by omega, by go_num, rfl, by rw [HS.out]; exact hP4.own, (hBe.alloc hGz _).trans (hP4.below (hO.alloc _) (Nat.le_trans hGz (by simp)))⟩
            case measure => simp [intOf] <;> omega
           | false =>
            rw [ht] at ha HS
            simp only [if_false, Bool.false_eq_true, List.append_nil] at ha HS
            go_wp2_with fail
            go_roundw
            case rel => exact ⟨j + 1, _, by omega, by go_num, rfl, by rw [HS.out]; exact hO, hBe⟩
            case measure => simp [intOf] <;> omega
          ·obtain rfl : j = vs.length := by omega
           have sI := sI0.mov (HG.out.symm ▸ hBe)
           have sV := sV0.mov (HG.out.symm ▸ hBe)
           have hr := rng_i64 (n := vs.length) (by omega) (fun x hx => by have := mem_mems.1 hx; exact ⟨this.1, this.2.1⟩ : ∀ x ∈ mems vs.length m, 0 ≤ x ∧ x < vs.length)
           obtain ⟨Am, cm, rfl, sMm⟩ := hO.sl hr
           clear hO hr
           have hml := mems_len vs.length m
           obtain ⟨Mm, hMm⟩ : ∃ q, mems vs.length m = q := ⟨_, rfl⟩
           rw [hMm] at sMm hml HCS
           rw [hMm]
           clear hMm
           by_cases hL : Mm.length = O.length
           ·have hMxm := Mx.of HIM.out HCS.out.1 HCS.out.2 (fun H' a b => by rw [hL]; exact HMax.out H' a b)
            have hvo := (mx_same HIM.out HNd.out HMx.out hMxm).symm.trans HV.out
            have hci := code_cs HIM.out HCS.out.1 HCS.out.2
            have Hvo := hide hvo
            have Hci := hide hci
            rw [hL] at sMm ⊢
            clear hMxm hvo hci hL hml
            have hMb := hM.b
            have x0 := hMb.cell 0
            have x1 := hMb.cell 1
            have x2 := hMb.cell 2
            go_wp2_with fail
            clear hMb x0 x1 x2
            refine (impl_VO_any _ _ _ _ os q _ _ _ vs _ _ _ Mm hM.s1 hM.s2 sMm (by omega) (by omega) (by omega)).mono ?_
            rintro e wn ⟨v1, rfl, o1, hbn⟩
            replace hM := hM.all hbn
            rw [Hci.out]
            rw [Hvo.out] at o1
            obtain ⟨R8, d8, rfl, sU⟩ := o1.sl (HV.out ▸ Hvr.out)
            replace sI := sI.mov hbn
            replace sV := sV.mov hbn
            clear o1 hbn sMm
            go_wp2_with fail
            refine (likeInts_any _ _ _ _ _ _ _ _ _ _ _ sU sV (by omega)).mono ?_
            rintro e wz ⟨rfl, dm, hdm⟩
            have hbl : Below wn.heap.size wn wz := hdm ▸ below_drewN (Below.refl _ _) _
            clear hdm
            replace hM := hM.all hbl
            replace sI := sI.mov hbl
            replace sV := sV.mov hbl
            clear hbl sU
            simp only [beq_self_eq_true]
            go_wp2_with fail
            go_roundw
            case rel => exact ⟨k + 1, by omega, by go_num, hM, sI, sV⟩
            case measure => simp [intOf] <;> omega
           ·have hLi : ¬ (Mm.length : Int) = (O.length : Int) := by omega
            go_wp2_with fail
            go_roundw
            case rel => exact ⟨k + 1, by omega, by go_num, hM, sI, sV⟩
            case measure => simp [intOf] <;> omega
        ·go_wp2_with fail
         go_meet
         exact hM.kk
   ·have hKb : (K == 0) = false := beq_eq_false_iff_ne.2 hK0
    go_wp2_with fail
    go_meet
    exact hM.kk
  case rest =>
   have kk := hcut
   clear hcut hM sG sI
   have hsz := kk.size
   have hb1 : SlB wc wc.heap.size A n c bs := ⟨hS.len, hS.cap, hS.rng, fun h0 => by
    obtain ⟨b, off, e, hlt, hc⟩ := hS.at_ h0
    exact ⟨b, off, e, by omega, fun k hk => (kk.cell (p := ⟨b, off + k, none⟩) hlt).trans (hc k hk)⟩⟩
   go_wp2_with fail
   refine (drawAre_any wc A n c bs hb1 hn).mono ?_
   rintro e w4 ⟨A1, c1, A2, c2, os, q, vs, E1, d1, E2, d2, ps, y, us, rfl, hG1, hG2, s1, s2, t1, t2, hb4⟩
   have kk4 := kk.trans (hb4.mono hsz)
   have lo1 := hG1.o
   have lv1 := hG1.v
   have lo2 := hG2.o
   have lv2 := hG2.v
   clear hb4 hb1 HO HMs HK HPl lo lv hG6 hI6 hL6
   go_wp2_with fail
   obtain ⟨wa, hwa⟩ : ∃ wa, w4.alloc (.cells #[.slice A1 os.length c1, .int .i64 q, .slice A2 vs.length c2] 26) = wa := ⟨_, rfl⟩
   have hM1 := GM.new (q := q) s1 s2 kk4
   have hba : Below w4.heap.size w4 wa := by rw [← hwa]; exact (Below.refl _ _).alloc (Nat.le_refl _) _
   have hza : wa.heap.size = w4.heap.size + 1 := by rw [← hwa]; simp
   rw [hwa] at hM1
   have hN1 := GM.new (q := y) ((t1.below hba).more hba.size) ((t2.below hba).more hba.size) (kk4.trans (hba.mono kk4.size))
   obtain ⟨wb, hwb⟩ : ∃ wb, wa.alloc (.cells #[.slice E1 ps.length d1, .int .i64 y, .slice E2 us.length d2] 26) = wb := ⟨_, rfl⟩
   have hbb : Below wa.heap.size wa wb := by rw [← hwb]; exact (Below.refl _ _).alloc (Nat.le_refl _) _
   rw [hwb] at hN1
   rw [hza] at hN1
   replace hM1 := hM1.all hbb
   clear s1 s2 t1 t2 hba hza hbb kk4
   rw [hwa, hwb]
   clear hwa hwb
   refine (impl_AE_any _ _ _ _ os q _ _ _ vs _ _ _ ps y _ _ _ us hM1.s1 hM1.s2 hN1.s1 hN1.s2 (by omega) (by omega) (by omega) (by omega) (hT.bel hM1.kk)).mono ?_
   rintro e wn ⟨rfl, hbn⟩
   replace hM1 := hM1.all hbn
   replace hN1 := hN1.all hbn
   clear hbn
   have hMb := hM1.b
   have hNb := hN1.b
   have x0 := hMb.cell 0
   have x1 := hMb.cell 1
   have x2 := hMb.cell 2
   have z0 := hNb.cell 0
   have z1 := hNb.cell 1
   have z2 := hNb.cell 2
   go_wp2_with fail
   clear x0 x1 x2 z0 z1 z2 hMb hNb
   refine (spec_AE_any _ _ _ _ os q _ _ _ vs _ _ _ ps y _ _ _ us hM1.s1 hM1.s2 hN1.s1 hN1.s2 (by omega) (by omega) (by omega) (by omega)).mono ?_
   rintro e wn ⟨rfl, hbn⟩
   replace hM1 := hM1.all hbn
   replace hN1 := hN1.all hbn
   clear hbn
   obtain ⟨Be, hBe⟩ : ∃ k, aeB os q vs ps y us = k := ⟨_, rfl⟩
   obtain ⟨Ke, hKe⟩ : ∃ k, aeC os q vs ps y us = k := ⟨_, rfl⟩
   rw [hBe, hKe]
   have HBe := hide hBe
   have HKe := hide hKe
   clear hBe hKe
   by_cases hK0 : Ke = 0
   ·subst hK0
    have hok := aeC_0 HKe.out
    obtain ⟨hsy, hok2⟩ := ae_comm hok
    have hc2 := aeC_ok hok2
    rw [HBe.out] at hsy
    have IM := hok.1
    have hcm := codeM_t (isM_t IM)
    have hnd := ndgM_iff IM
    have HIM := hide IM
    have Hsy := hide hsy.symm
    have Hc2 := hide hc2
    have Hcm := hide hcm
    have Hnd := hide hnd
    clear hok hok2 hsy hc2 IM hcm hnd
    have hMb := hM1.b
    have hNb := hN1.b
    have x0 := hMb.cell 0
    have x1 := hMb.cell 1
    have x2 := hMb.cell 2
    have z0 := hNb.cell 0
    have z1 := hNb.cell 1
    have z2 := hNb.cell 2
    go_wp2_with fail
    clear x0 x1 x2 z0 z1 z2 hMb hNb
    refine (impl_AE_any _ _ _ _ ps y _ _ _ us _ _ _ os q _ _ _ vs hN1.s1 hN1.s2 hM1.s1 hM1.s2 (by omega) (by omega) (by omega) (by omega) (hT.bel hM1.kk)).mono ?_
    rintro e wn ⟨rfl, hbn⟩
    replace hM1 := hM1.all hbn
    replace hN1 := hN1.all hbn
    clear hbn
    rw [Hsy.out, Hc2.out]
    have hMb := hM1.b
    have hNb := hN1.b
    have x0 := hMb.cell 0
    have x1 := hMb.cell 1
    have x2 := hMb.cell 2
    have z0 := hNb.cell 0
    have z1 := hNb.cell 1
    have z2 := hNb.cell 2
    go_wp2_with fail
    clear x0 x1 x2 z0 z1 z2 hMb hNb
    refine (impl_Ndg_any _ _ _ _ os q _ _ _ vs hM1.s1 hM1.s2 (by omega) (by omega)).mono ?_
    rintro e wn ⟨rfl, hbn⟩
    replace hM1 := hM1.all hbn
    replace hN1 := hN1.all hbn
    clear hbn
    rw [Hcm.out]
    obtain ⟨bN, hbN⟩ : ∃ k, ndgM os q vs = k := ⟨_, rfl⟩
    rw [hbN]
    have HbN := hide hbN
    clear hbN hN1
    have hMb := hM1.b
    have x0 := hMb.cell 0
    have x1 := hMb.cell 1
    have x2 := hMb.cell 2
    cases bN with
    | false =>
     go_wp2_with fail
     go_ret
     exact ⟨rfl, hM1.kk⟩
    | true =>
     by_cases hv4 : 4 < vs.length
     ·have hv4i : (4 : Int) < (vs.length : Int) := by omega
      go_wp2_with fail
      go_ret
      exact ⟨rfl, hM1.kk⟩
     ·have hv4i : ¬ (4 : Int) < (vs.length : Int) := by omega
      by_cases ho2 : 2 < os.length
      ·have ho2i : (2 : Int) < (os.length : Int) := by omega
       go_wp2_with fail
       go_ret
       exact ⟨rfl, hM1.kk⟩
      ·have ho2i : ¬ (2 : Int) < (os.length : Int) := by omega
       have hPP : prodL os * prodL os ≤ 16 := by
        have hl := HIM.out.ok.len
        have hp : 0 ≤ prodL os := by omega
        have : prodL os * prodL os ≤ 4 * 4 := Int.mul_le_mul (by omega) (by omega) hp (by omega)
        omega
       have hse := ae_self HIM.out (Hnd.out.1 HbN.out) hPP (by omega)
       have hsc := aeC_ok (⟨HIM.out, HIM.out, hPP, by omega⟩ : AeOk os q vs os q vs)
       have Hse := hide hse
       have Hsc := hide hsc
       clear hse hsc hPP
       go_wp2_with fail
       clear x0 x1 x2 hMb
       refine (impl_AE_any _ _ _ _ os q _ _ _ vs _ _ _ os q _ _ _ vs hM1.s1 hM1.s2 hM1.s1 hM1.s2 (by omega) (by omega) (by omega) (by omega) (hT.bel hM1.kk)).mono ?_
       rintro e wn ⟨rfl, hbn⟩
       rw [Hse.out, Hsc.out]
       replace hM1 := hM1.all hbn
       clear hbn
       go_wp2_with fail
       go_ret
       exact ⟨rfl, hM1.kk⟩
   ·have hKb : (Ke != 0) = true := by simpa using hK0
    go_wp2_with fail
    go_ret
    exact ⟨rfl, hM1.kk⟩
end Go.Proofs.YtbpihnpakolooaaGreatDoor
