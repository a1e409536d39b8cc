
/- The walk of the law FnIsometries. -/
import Derived.Test.YtonehmjoolflfaaGreatDoorFI0
import Derived.Test.YtonehmjoolflfaaGreatDoorLTa
import Derived.Test.YtonehmjoolflfaaGreatDoorD5b
import Derived.Test.YtonehmjoolflfaaGreatDoorDva
import Derived.Test.YtonehmjoolflfaaGreatDoorMTa
import Derived.WalkLawsBesides
import Derived.Deep.CutRange
namespace Go.Proofs.YtonehmjoolflfaaGreatDoor
open Go Go.RowKit Grp
set_option linter.unusedSimpArgs false
set_option linter.unusedVariables false
set_option maxRecDepth 100000 in
set_option maxHeartbeats 32000000 in
theorem law_Isometries {w : World} (hT : TbZ w) (A : Option Addr) (n c : Nat) (bs : List Int) (h : BlIn w A n c bs) : Calls Tryz.prog 3 #[.slice A n c] w (Re w (.bool true)) := by
  by_cases hn0 : 4096 < n
  · have hd : decide (4096 < (n : Int)) = true := decide_eq_true (by omega)
    have Hd := hide hd
    clear hd
    go_enter Tryz.func3, Tryz.ntmps3
    go_wp2_with fail
    refine (big_any _ A n c).mono ?_
    rintro e w1 ⟨rfl, m, rfl⟩
    rw [Hd.out]
    go_wp2
    go_ret
    exact ⟨rfl, (by repeat (first | assumption | exact Below.refl _ _ | apply below_drewN | apply Below.drew | apply Below.alloc | apply Below.setCell | omega | (focus (simp; done)) | (focus (simp; omega))))⟩
  · have hn : n ≤ 4096 := by omega
    have hd : decide (4096 < (n : Int)) = false := decide_eq_false (by omega)
    have Hd := hide hd
    clear hd
    have hS := h.sl
    go_enter Tryz.func3, Tryz.ntmps3
    go_wp2_with fail
    refine (big_any _ A n c).mono ?_
    rintro e w1 ⟨rfl, m, rfl⟩
    rw [Hd.out]
    have kk : Below w.heap.size w (w.drewN m) := below_drewN (Below.refl _ _) _
    obtain ⟨w1, hw1⟩ : ∃ w1, w.drewN m = w1 := ⟨_, rfl⟩
    rw [hw1] at kk ⊢
    clear hw1
    have hsz := kk.size
    have hb1 : SlB w1 w1.heap.size A n c bs := ⟨hS.len, hS.cap, hS.rng, fun h0 => by
      obtain ⟨b, off, e, hlt, hc⟩ := hS.at_ h0
      exact ⟨b, off, e, by omega, fun k hk => (kk.cell (p := ⟨b, off + k, none⟩) hlt).trans (hc k hk)⟩⟩
    go_wp2_with fail
    refine (drawIso_any w1 A n c bs hb1 hn).mono ?_
    rintro e w4 ⟨A1, c1, A2, c2, os, q, vs, B1, d1, B2, d2, ps, y, us, rfl, hG1, hG2, s1, s2, t1, t2, hb4⟩
    have kk4 := kk.trans (hb4.mono hsz)
    have lo1 := hG1.o
    have lv1 := hG1.v
    have lo2 := hG2.o
    have lv2 := hG2.v
    have hq1 := hG1.q
    have hq2 := hG2.q
    clear hb4 hb1 kk hsz
    go_wp2_with fail
    obtain ⟨wa, hwa⟩ : ∃ wa, w4.alloc (.cells #[.slice A1 os.length c1, .int .i64 q, .slice A2 vs.length c2] 26) = wa := ⟨_, rfl⟩
    have hM1 := GM.new (q := q) s1 s2 kk4
    have hba : Below w4.heap.size w4 wa := by rw [← hwa]; exact (Below.refl _ _).alloc (Nat.le_refl _) _
    have hza : wa.heap.size = w4.heap.size + 1 := by rw [← hwa]; simp
    rw [hwa] at hM1
    have hN1 := GM.new (q := y) ((t1.below hba).more hba.size) ((t2.below hba).more hba.size) (kk4.trans (hba.mono kk4.size))
    obtain ⟨wb, hwb⟩ : ∃ wb, wa.alloc (.cells #[.slice B1 ps.length d1, .int .i64 y, .slice B2 us.length d2] 26) = wb := ⟨_, rfl⟩
    have hbb : Below wa.heap.size wa wb := by rw [← hwb]; exact (Below.refl _ _).alloc (Nat.le_refl _) _
    rw [hwb] at hN1
    rw [hza] at hN1
    replace hM1 := hM1.all hbb
    obtain ⟨M, hMe⟩ : ∃ M, w4.heap.size = M := ⟨_, rfl⟩
    rw [hMe] at hM1 hN1
    clear s1 s2 t1 t2 hba hza hbb kk4
    rw [hwa, hwb]
    rw [hMe]
    clear hwa hwb hMe
    have shX : metric_Sh (os, q, vs) := show os.length + vs.length ≤ 1073741824 by omega
    have shY : metric_Sh (ps, y, us) := show ps.length + us.length ≤ 1073741824 by omega
    refine (implIO_c _ _ (os, q, vs) (hM1.r hq1) shX _ (ps, y, us) (hN1.r hq2) shY).mono ?_
    rintro e wn ⟨v1, rfl, o1, hbn⟩
    obtain ⟨R1, e1, rfl, sG⟩ := E1.sl o1
    replace hM1 := hM1.all hbn
    replace hN1 := hN1.all hbn
    clear o1 hbn
    have hMb := hM1.b
    have hNb := hN1.b
    have x0 := hMb.cell 0
    have x1 := hMb.cell 1
    have x2 := hMb.cell 2
    have z0 := hNb.cell 0
    have z1 := hNb.cell 1
    have z2 := hNb.cell 2
    go_wp2_with fail
    clear x0 x1 x2 z0 z1 z2 hMb hNb
    refine (specIO_c _ _ (os, q, vs) (hM1.r hq1) shX _ (ps, y, us) (hN1.r hq2) shY).mono ?_
    rintro e wn ⟨v1, rfl, o1, hbn⟩
    replace hM1 := hM1.all hbn
    replace hN1 := hN1.all hbn
    obtain ⟨R2, e2, rfl, sH⟩ := E1.sl o1
    replace sG := sG.mov hbn
    clear o1 hbn
    have hMb := hM1.b
    have hNb := hN1.b
    have x0 := hMb.cell 0
    have x1 := hMb.cell 1
    have x2 := hMb.cell 2
    have z0 := hNb.cell 0
    have z1 := hNb.cell 1
    have z2 := hNb.cell 2
    go_wp2_with fail
    clear x0 x1 x2 z0 z1 z2 hMb hNb
    refine (implCI_c _ _ (os, q, vs) (hM1.r hq1) shX _ (ps, y, us) (hN1.r hq2) shY).mono ?_
    rintro e wn ⟨rfl, hbn⟩
    replace hM1 := hM1.all hbn
    replace hN1 := hN1.all hbn
    replace sG := sG.mov hbn
    replace sH := sH.mov hbn
    clear hbn
    have hMb := hM1.b
    have hNb := hN1.b
    have x0 := hMb.cell 0
    have x1 := hMb.cell 1
    have x2 := hMb.cell 2
    have z0 := hNb.cell 0
    have z1 := hNb.cell 1
    have z2 := hNb.cell 2
    go_wp2_with fail
    clear x0 x1 x2 z0 z1 z2 hMb hNb
    refine (specCI_c _ _ (os, q, vs) (hM1.r hq1) shX _ (ps, y, us) (hN1.r hq2) shY).mono ?_
    rintro e wn ⟨rfl, hbn⟩
    replace hM1 := hM1.all hbn
    replace hN1 := hN1.all hbn
    replace sG := sG.mov hbn
    replace sH := sH.mov hbn
    clear hbn
    have hOl := (io_len2 (os, q, vs) (ps, y, us) lo1).1
    have hBk := ci_back (x := (os, q, vs)) (y := (ps, y, us))
    have hCI := ci_io (x := (os, q, vs)) (y := (ps, y, us))
    have hSm := ci_small (os, q, vs) (ps, y, us)
    have hOut := io_out (x := (os, q, vs)) (y := (ps, y, us))
    obtain ⟨O, hO⟩ : ∃ k, ioL (os, q, vs) (ps, y, us) = k := ⟨_, rfl⟩
    obtain ⟨K1, hK1⟩ : ∃ k, ioK (os, q, vs) (ps, y, us) = k := ⟨_, rfl⟩
    obtain ⟨Cn, hCn⟩ : ∃ k, ciC (os, q, vs) (ps, y, us) = k := ⟨_, rfl⟩
    obtain ⟨K2, hK2⟩ : ∃ k, ciK (os, q, vs) (ps, y, us) = k := ⟨_, rfl⟩
    rw [hO] at sG sH hOl hOut
    rw [hCn] at hBk hCI hSm
    rw [hK1] at hCI hOut
    rw [hK2] at hBk hCI
    rw [hO, hK1, hCn, hK2]
    obtain ⟨L, hL⟩ : ∃ L, O.length = L := ⟨_, rfl⟩
    rw [hL] at sG sH hOl ⊢
    have HL := hide hL
    clear hL
    have HBk := hide hBk
    have HCI := hide hCI
    have HOut := hide hOut
    clear hO hK1 hCn hK2 hBk hCI hOut
    go_wp2_with fail
    refine (likeInts_any _ _ _ _ _ _ _ _ _ _ _ sG sH (by omega)).mono ?_
    rintro e wl ⟨rfl, dm, hdm⟩
    have hbl : Below wn.heap.size wn wl := hdm ▸ below_drewN (Below.refl _ _) _
    clear hdm
    replace hM1 := hM1.all hbl
    replace hN1 := hN1.all hbl
    replace sG := sG.mov hbl
    clear hbl sH
    simp only [beq_self_eq_true]
    go_upto_if 89 with fail
    go_cut [] from 90 to 107 (fun wx => GM w M A1 c1 A2 c2 os q vs wx ∧ GM w (M + 1) B1 d1 B2 d2 ps y us wx ∧ Sl wx wx.heap.size R1 L e1 O)
    case first =>
      by_cases hK : K2 = 0
      · obtain ⟨hb1, hb2⟩ := HBk.out hK
        have hci := HCI.out hK
        subst hK
        have HB1 := hide hb1
        have HB2 := hide hb2
        clear hb1 hb2
        rcases hci with ⟨hk, hpos⟩ | ⟨hk, hpos⟩
        · subst hk
          have hMb := hM1.b
          have hNb := hN1.b
          have x0 := hMb.cell 0
          have x1 := hMb.cell 1
          have x2 := hMb.cell 2
          have z0 := hNb.cell 0
          have z1 := hNb.cell 1
          have z2 := hNb.cell 2
          go_wp2_with fail
          clear x0 x1 x2 z0 z1 z2 hMb hNb
          refine (implCI_c _ _ (ps, y, us) (hN1.r hq2) shY _ (os, q, vs) (hM1.r hq1) shX).mono ?_
          rintro e wn ⟨rfl, hbn⟩
          replace hM1 := hM1.all hbn
          replace hN1 := hN1.all hbn
          rw [HB1.out, HB2.out]
          replace sG := sG.mov hbn
          clear hbn
          go_wp2_with fail
          go_meet
          exact ⟨hM1, hN1, sG⟩
        · obtain rfl : Cn = 0 := by omega
          have hkb : (K1 == 0) = false := beq_eq_false_iff_ne.2 hk
          clear hpos
          have hMb := hM1.b
          have hNb := hN1.b
          have x0 := hMb.cell 0
          have x1 := hMb.cell 1
          have x2 := hMb.cell 2
          have z0 := hNb.cell 0
          have z1 := hNb.cell 1
          have z2 := hNb.cell 2
          go_wp2_with fail
          clear x0 x1 x2 z0 z1 z2 hMb hNb
          refine (implCI_c _ _ (ps, y, us) (hN1.r hq2) shY _ (os, q, vs) (hM1.r hq1) shX).mono ?_
          rintro e wn ⟨rfl, hbn⟩
          replace hM1 := hM1.all hbn
          replace hN1 := hN1.all hbn
          rw [HB1.out, HB2.out]
          replace sG := sG.mov hbn
          clear hbn
          go_wp2_with fail
          go_meet
          exact ⟨hM1, hN1, sG⟩
      · go_wp2_with fail
        go_meet
        exact ⟨hM1, hN1, sG⟩
    case rest =>
      clear hM1 hN1 sG
      obtain ⟨hM1, hN1, sG⟩ := hcut
      go_upto_if 109 with fail
      go_cut [] from 110 to 169 (fun wx => Below w.heap.size w wx)
      case first =>
        by_cases hK : K1 = 0
        · have hP := HOut.out hK
          subst hK
          have hl : L = os.length := HL.out.symm.trans hP.len
          subst hl
          have HP := hide hP
          clear hP hOl
          have hMb := hM1.b
          have x0 := hMb.cell 0
          have x1 := hMb.cell 1
          have x2 := hMb.cell 2
          go_wp2_with fail
          clear x0 x1 x2 hMb
          go_loopw [15] (fun i wr => ∃ k : Nat, k ≤ os.length ∧ i = .int .i64 k ∧ GM w M A1 c1 A2 c2 os q vs wr ∧ GM w (M + 1) B1 d1 B2 d2 ps y us wr ∧ Sl wr wr.heap.size R1 os.length e1 O) (fun i _ => os.length - (intOf i).toNat)
          case atStart => exact ⟨0, by omega, rfl, hM1, hN1, sG⟩
          case round =>
            clear hM1 hN1 sG
            obtain ⟨k, hk, rfl, hM1, hN1, sG⟩ := hrel
            by_cases hlt : k < os.length
            · obtain ⟨br, orr, rfl, hbr, hcr⟩ := sG.at_ (by omega)
              have cx := hcr k hlt
              have hcap := sG.cap
              have hrg := HP.out.rng k hlt
              have hord := HP.out.ord k hlt
              obtain ⟨xr, hxr⟩ : ∃ xr, gi O k = xr := ⟨_, rfl⟩
              rw [hxr] at cx hrg hord
              have HO1 := fun wd (h : Below wr.heap.size wr wd) => ord_w HP.out.n hrg.1 hrg.2 wd _ _ _ _ _ _ ((hN1.s1.below h).more h.size) ((hN1.s2.below h).more h.size) (by omega) (by omega)
              obtain ⟨r, hr⟩ : ∃ r, ordN ps xr = r := ⟨_, rfl⟩
              simp only [hr] at HO1 hord
              have HO2 := hide HO1
              have hord2 : (r : Int) = gi os k := hord
              have hor := hide hord2
              have hNb := hN1.b
              have x0 := hNb.cell 0
              have x1 := hNb.cell 1
              have x2 := hNb.cell 2
              have hNl := hNb.lt
              clear hcr hxr hr hord hord2 HO1 hrg
              go_wp2_with fail
              refine wp_region_be [0, 1, 2, 3, 4, 5, 6, 7, 8, 9, 10] 10 wr.heap.size wr (by kernel_rfl) (by kernel_rfl) (by kernel_rfl) (fun _ _ _ _ _ h => h) (Below.refl _ _) (fun wd hBe => ?_)
              repeat (first | (apply ord_tk rfl (by rfl) (by rfl) (by rfl); (focus (intro wx hSw; have r0 := (hSw.cell (p := ⟨M + 1, 0, none⟩) hNl).trans x0; have r1 := (hSw.cell (p := ⟨M + 1, 1, none⟩) hNl).trans x1; have r2 := (hSw.cell (p := ⟨M + 1, 2, none⟩) hNl).trans x2; have r3 := (hSw.cell (p := ⟨br, orr + k, none⟩) hbr).trans cx; go_simp; (try with_reducible rfl))); (try simp only [Act.put, List.setIfInBounds_toArray, List.set_cons_zero, List.set_cons_succ])) | (apply ord_skip rfl (by rfl) (by rfl) (fun _ => hBe); (try simp only [Act.put, List.setIfInBounds_toArray, List.set_cons_zero, List.set_cons_succ])))
              refine ord_do rfl (by rfl) (by rfl) (fun K hK => ?_)
              go_simp
              refine (HO2.out _ hBe).mono ?_
              rintro e wd' ⟨rfl, hwd⟩
              replace hBe := hBe.trans (hwd.mono hBe.size)
              clear hwd
              refine hK.out _ _ (fun _ => hBe) ?_
              (try simp only [Act.put, List.setIfInBounds_toArray, List.set_cons_zero, List.set_cons_succ])
              clear hK K
              repeat (first | (apply ord_tk rfl (by rfl) (by rfl) (by rfl); (focus (intro wx hSw; skip; go_simp; (try with_reducible rfl))); (try simp only [Act.put, List.setIfInBounds_toArray, List.set_cons_zero, List.set_cons_succ])) | (apply ord_skip rfl (by rfl) (by rfl) (fun _ => hBe); (try simp only [Act.put, List.setIfInBounds_toArray, List.set_cons_zero, List.set_cons_succ])))
              refine ord_do rfl (by rfl) (by rfl) (fun K hK => ?_)
              go_simp
              refine hK.out _ _ (fun h => absurd h (by omega)) ?_
              (try simp only [Act.put, List.setIfInBounds_toArray, List.set_cons_zero, List.set_cons_succ])
              clear hK K
              refine ord_nil ?_
              replace hM1 := hM1.all hBe
              replace hN1 := hN1.all hBe
              replace sG := sG.mov hBe
              clear x0 x1 x2 hNb cx HO2 hBe hbr hNl
              have hMb := hM1.b
              have x0 := hMb.cell 0
              have x1 := hMb.cell 1
              have x2 := hMb.cell 2
              obtain ⟨bo, oo, rfl, hbo, hco⟩ := hM1.s1.at_ (by omega)
              have co := hco k hlt
              rw [← hor.out] at co
              have hcap1 := hM1.s1.cap
              clear hco
              go_wp2_with fail
              clear x0 x1 x2 hMb
              go_roundw
              case rel => exact ⟨k + 1, by omega, by go_num, hM1, hN1, sG⟩
              case measure => simp [intOf] <;> omega
            · have hbS : SlB wr wr.heap.size A n c bs := ⟨hS.len, hS.cap, hS.rng, fun h0 => by
                obtain ⟨b, off, e, hlt, hc⟩ := hS.at_ h0
                exact ⟨b, off, e, by have := hM1.kk.size; omega, fun k hk => (hM1.kk.cell (p := ⟨b, off + k, none⟩) hlt).trans (hc k hk)⟩⟩
              clear sG
              go_wp2_with fail
              refine (roll_any wr A n c bs hbS hn _).mono ?_
              rintro e wi ⟨S, rfl, hD⟩
              go_wp2_with fail
              refine (dice_any wr wi _ S A n c bs hbS (by omega) hD 30 ⟨by omega, by omega⟩).mono ?_
              rintro e wj ⟨x, rfl, ⟨x0, x1, -⟩, hD2, -⟩
              have x1 := x1 (by omega)
              have hbn := hD2.below
              replace hM1 := hM1.all hbn
              replace hN1 := hN1.all hbn
              clear hbn hD hD2 hbS
              have hx : IntKind.i64.wrap (x - 15) = x - 15 := wr64 _ ⟨by omega, by omega⟩
              have Hp := gauss_w HP.out.m (k := x - 15) (by omega) (by omega)
              have Hq := gauss_w HP.out.n (k := x - 15) (by omega) (by omega)
              have hga : gsum q.toNat (x - 15) vs = gsum y.toNat (x - 15) us := HP.out.ga (x - 15)
              simp only [← hga] at Hq
              obtain ⟨g, hg⟩ : ∃ g, gsum q.toNat (x - 15) vs % 55441 = g := ⟨_, rfl⟩
              simp only [hg] at Hp Hq
              obtain ⟨k9, hk9⟩ : ∃ k9, x - 15 = k9 := ⟨_, rfl⟩
              rw [hk9] at Hp Hq
              have hHp := hide Hp
              have hHq := hide Hq
              replace hx : IntKind.i64.wrap (x - 15) = k9 := by rw [hx]; exact hk9
              clear hga hg hk9 x1 x0 Hp Hq
              have hMb := hM1.b
              have x0 := hMb.cell 0
              have x1 := hMb.cell 1
              have x2 := hMb.cell 2
              go_wp2_with fail
              clear x0 x1 x2 hMb
              refine (hHp.out _ _ _ _ _ _ _ hM1.s1 hM1.s2 (by omega) (by omega)).mono ?_
              rintro e wk ⟨rfl, hbn⟩
              replace hM1 := hM1.all hbn
              replace hN1 := hN1.all hbn
              clear hbn
              have hMb := hN1.b
              have x0 := hMb.cell 0
              have x1 := hMb.cell 1
              have x2 := hMb.cell 2
              go_wp2_with fail
              clear x0 x1 x2 hMb
              refine (hHq.out _ _ _ _ _ _ _ hN1.s1 hN1.s2 (by omega) (by omega)).mono ?_
              rintro e wl2 ⟨rfl, hbn⟩
              replace hM1 := hM1.all hbn
              clear hbn hN1
              go_wp2_with fail
              go_meet
              exact hM1.kk
        · go_wp2_with fail
          go_meet
          exact hM1.kk
      case rest =>
        have kk := hcut
        clear hcut hM1 hN1 sG HBk HCI HOut hSm shX shY
        have hsz := kk.size
        have hb1 : SlB wc wc.heap.size A n c bs := ⟨hS.len, hS.cap, hS.rng, fun h0 => by
          obtain ⟨b, off, e, hlt, hc⟩ := hS.at_ h0
          exact ⟨b, off, e, by omega, fun k hk => (kk.cell (p := ⟨b, off + k, none⟩) hlt).trans (hc k hk)⟩⟩
        go_wp2_with fail
        refine (drawText_any wc A n c bs hb1 hn).mono ?_
        rintro e w5 ⟨A5, c5, A6, c6, o5, q5, u5, rfl, hG5, s5, s6, hb5⟩
        have kk5 := kk.trans (hb5.mono hsz)
        have hX := GM.new (q := q5) s5 s6 kk5
        have lo5 := hG5.o
        have lv5 := hG5.v
        clear s5 s6 hb5 hb1 kk hsz kk5
        obtain ⟨w3, hw3⟩ : ∃ w3, w5.alloc (.cells #[.slice A5 o5.length c5, .int .i64 q5, .slice A6 u5.length c6] 26) = w3 := ⟨_, rfl⟩
        rw [hw3] at hX
        obtain ⟨M5, hMe⟩ : ∃ M, w5.heap.size = M := ⟨_, rfl⟩
        rw [hMe] at hX
        have hMb := hX.b
        have x0 := hMb.cell 0
        have x1 := hMb.cell 1
        have x2 := hMb.cell 2
        go_wp2_with fail
        clear x0 x1 x2 hMb
        refine (impl_MT_any _ _ _ _ o5 q5 _ _ _ u5 hX.s1 hX.s2 (by omega) (by omega) (hT.bel hX.kk).p).mono ?_
        rintro e wn ⟨rfl, hbn⟩
        replace hX := hX.all hbn
        clear hw3 hMe hbn
        have hMb := hX.b
        have x0 := hMb.cell 0
        have x1 := hMb.cell 1
        have x2 := hMb.cell 2
        go_wp2_with fail
        clear x0 x1 x2 hMb
        refine (spec_MT_any _ _ _ _ o5 q5 _ _ _ u5 hX.s1 hX.s2 (by omega) (by omega)).mono ?_
        rintro e wn ⟨rfl, hbn⟩
        replace hX := hX.all hbn
        clear hbn
        have hTx : codeM o5 q5 u5 = 0 → IsM o5 q5 u5 ∧ mtT o5 q5 u5 = metText o5 q5 u5 := fun h => by
          cases hm : isM o5 q5 u5 with
          | true => exact ⟨isM_iff.1 hm, by unfold mtT; rw [if_pos hm]⟩
          | false => unfold codeM at h; rw [hm] at h; simp at h
        obtain ⟨T, hTe⟩ : ∃ T, mtT o5 q5 u5 = T := ⟨_, rfl⟩
        obtain ⟨K, hKe⟩ : ∃ K, codeM o5 q5 u5 = K := ⟨_, rfl⟩
        rw [hTe, hKe] at hTx ⊢
        have HTx := hide hTx
        clear hTe hKe hTx
        go_upto_if 191 with fail
        go_cut [] from 192 to 204 (fun wx => Below w.heap.size w wx)
        case first =>
          by_cases hK : K = 0
          · obtain ⟨hm, hte⟩ := HTx.out hK
            subst hK
            have ht1 := txt_small hm
            have ht2 := txt_back hm
            rw [← hte] at ht1 ht2
            have HPc := hide (show ∀ W, TbZ W → Calls Tryz.prog 18 #[.string T] W (MkEC metric_E W (o5, q5, u5) 0) from fun W hT => by have := implPM_any W T (by omega) hT; rw [ht2.1, ht2.2] at this; exact this)
            clear hte ht1 ht2 hm
            go_wp2_with fail
            refine (HPc.out _ (hT.bel hX.kk)).mono ?_
            rintro e wn ⟨v1, rfl, o1, hbn⟩
            replace hX := hX.all hbn
            obtain ⟨A7, c7, A8, c8, hv, s7, s8⟩ := metric_sl o1
            clear o1 hbn
            change v1 = .agg #[.slice A7 o5.length c7, .int .i64 q5, .slice A8 u5.length c8] at hv
            change Sl wn wn.heap.size A7 o5.length c7 o5 at s7
            change Sl wn wn.heap.size A8 u5.length c8 u5 at s8
            subst hv
            have hW := GM.new (q := q5) s7 s8 hX.kk
            have hbx : Below wn.heap.size wn (wn.alloc (.cells #[.slice A7 o5.length c7, .int .i64 q5, .slice A8 u5.length c8] 26)) := (Below.refl _ _).alloc (Nat.le_refl _) _
            obtain ⟨w7, hw7⟩ : ∃ w', wn.alloc (.cells #[.slice A7 o5.length c7, .int .i64 q5, .slice A8 u5.length c8] 26) = w' := ⟨_, rfl⟩
            rw [hw7] at hW hbx
            obtain ⟨M7, hM7⟩ : ∃ M, wn.heap.size = M := ⟨_, rfl⟩
            rw [hM7] at hW
            have hWb := hW.b
            clear s7 s8
            replace hX := hX.all hbx
            have hXb := hX.b
            have x0 := hXb.cell 0
            have x1 := hXb.cell 1
            have x2 := hXb.cell 2
            have z0 := hWb.cell 0
            have z1 := hWb.cell 1
            have z2 := hWb.cell 2
            clear hbx
            go_wp2_with fail
            clear hw7 hM7 x0 x1 x2 z0 z1 z2 hXb hWb
            refine (likeM_any _ w7.heap.size _ _ _ _ _ _ _ _ _ _ _ _ q5 q5 o5 o5 u5 u5 hW.s1 hW.s2 hX.s1 hX.s2 (Nat.le_refl _) (by omega) (by omega)).mono ?_
            rintro e w8 ⟨rfl, hbn⟩
            simp only [beq_self_eq_true, Bool.and_self]
            go_wp2_with fail
            go_meet
            exact hX.kk.trans (hbn.mono hX.kk.size)
          · go_wp2_with fail
            go_meet
            exact hX.kk
        case rest =>
          have kk := hcut
          clear hcut hX
          have hsz := kk.size
          have hb1 : SlB wc wc.heap.size A n c bs := ⟨hS.len, hS.cap, hS.rng, fun h0 => by
            obtain ⟨b, off, e, hlt, hc⟩ := hS.at_ h0
            exact ⟨b, off, e, by omega, fun k hk => (kk.cell (p := ⟨b, off + k, none⟩) hlt).trans (hc k hk)⟩⟩
          go_wp2_with fail
          refine (drawParse_any wc A n c bs hb1 hn).mono ?_
          rintro e w6 ⟨t, rfl, ht, hb6⟩
          have kk6 := kk.trans (hb6.mono hsz)
          have hsm := pm_small (s := t)
          have hcd := pm_codes t
          obtain ⟨⟨o6, q6, u6⟩, hP⟩ : ∃ P, pmX t = P := ⟨_, rfl⟩
          obtain ⟨K6, hK⟩ : ∃ K, pmC t = K := ⟨_, rfl⟩
          rw [hP] at hsm hcd
          rw [hK] at hcd
          have hsm2 : o6.length + u6.length ≤ 20 := hsm
          have HP1 := hide (show ∀ W, TbZ W → Calls Tryz.prog 18 #[.string t] W (MkEC metric_E W (o6, q6, u6) K6) from fun W hT => by have := implPM_any W t (by omega) hT; rw [hP, hK] at this; exact this)
          have HP2 := hide (show ∀ W, Calls Tryz.prog 21 #[.string t] W (MkEC metric_E W (o6, q6, u6) K6) from fun W => by have := specPM_any W t (by omega); rw [hP, hK] at this; exact this)
          have HCd := hide hcd
          clear hP hK hcd hsm hb6 hb1 kk hsz
          go_wp2_with fail
          refine (HP1.out _ (hT.bel kk6)).mono ?_
          rintro e wn ⟨v1, rfl, o1, hbn⟩
          replace kk6 := kk6.trans (hbn.mono kk6.size)
          obtain ⟨A7, c7, A8, c8, hv, s7, s8⟩ := metric_sl o1
          clear o1 hbn
          change v1 = .agg #[.slice A7 o6.length c7, .int .i64 q6, .slice A8 u6.length c8] at hv
          change Sl wn wn.heap.size A7 o6.length c7 o6 at s7
          change Sl wn wn.heap.size A8 u6.length c8 u6 at s8
          subst hv
          have hW := GM.new (q := q6) s7 s8 kk6
          have hbx : Below wn.heap.size wn (wn.alloc (.cells #[.slice A7 o6.length c7, .int .i64 q6, .slice A8 u6.length c8] 26)) := (Below.refl _ _).alloc (Nat.le_refl _) _
          obtain ⟨w7, hw7⟩ : ∃ w', wn.alloc (.cells #[.slice A7 o6.length c7, .int .i64 q6, .slice A8 u6.length c8] 26) = w' := ⟨_, rfl⟩
          rw [hw7] at hW hbx
          obtain ⟨M7, hM7⟩ : ∃ M, wn.heap.size = M := ⟨_, rfl⟩
          rw [hM7] at hW
          have hWb := hW.b
          clear s7 s8
          clear hbx kk6
          go_wp2_with fail
          clear hw7
          refine (HP2.out _).mono ?_
          rintro e wn ⟨v1, rfl, o1, hbn⟩
          replace hW := hW.all hbn
          obtain ⟨B7, e7, B8, e8, hv, s9, s10⟩ := metric_sl o1
          clear o1 hbn hM7 hWb
          change v1 = .agg #[.slice B7 o6.length e7, .int .i64 q6, .slice B8 u6.length e8] at hv
          change Sl wn wn.heap.size B7 o6.length e7 o6 at s9
          change Sl wn wn.heap.size B8 u6.length e8 u6 at s10
          subst hv
          have hZ := GM.new (q := q6) s9 s10 hW.kk
          have hbx : Below wn.heap.size wn (wn.alloc (.cells #[.slice B7 o6.length e7, .int .i64 q6, .slice B8 u6.length e8] 26)) := (Below.refl _ _).alloc (Nat.le_refl _) _
          obtain ⟨w8, hw8⟩ : ∃ w', wn.alloc (.cells #[.slice B7 o6.length e7, .int .i64 q6, .slice B8 u6.length e8] 26) = w' := ⟨_, rfl⟩
          rw [hw8] at hZ hbx
          obtain ⟨M8, hM8⟩ : ∃ M, wn.heap.size = M := ⟨_, rfl⟩
          replace hW := hW.all hbx
          rw [hM8] at hZ
          have hXb := hZ.b
          have hWb := hW.b
          have x0 := hXb.cell 0
          have x1 := hXb.cell 1
          have x2 := hXb.cell 2
          have z0 := hWb.cell 0
          have z1 := hWb.cell 1
          have z2 := hWb.cell 2
          clear hbx s9 s10
          go_wp2_with fail
          clear hw8 hM8 x0 x1 x2 z0 z1 z2 hXb hWb
          refine (likeM_any _ w8.heap.size _ _ _ _ _ _ _ _ _ _ _ _ q6 q6 o6 o6 u6 u6 hW.s1 hW.s2 hZ.s1 hZ.s2 (Nat.le_refl _) (by omega) (by omega)).mono ?_
          rintro e w9 ⟨rfl, hbn⟩
          simp only [beq_self_eq_true, Bool.and_self]
          replace hW := hW.all hbn
          clear hbn hZ
          by_cases hK : K6 = 0
          · rcases HCd.out with ⟨_, hm, htt⟩ | h9
            · subst hK
              have hm : IsM o6 q6 u6 := hm
              have htt : metText o6 q6 u6 = t := htt
              have hmt : mtT o6 q6 u6 = t := by unfold mtT; rw [if_pos (isM_t hm)]; exact htt
              have hcm : codeM o6 q6 u6 = 0 := by unfold codeM; rw [isM_t hm]; rfl
              have HTt := hide (show ∀ W A n c A' n' c', Sl W W.heap.size A n c o6 → Sl W W.heap.size A' n' c' u6 → n ≤ 1073741824 → n' ≤ 1073741824 → TbP W → Calls Tryz.prog 16 #[.agg #[.slice A n c, .int .i64 q6, .slice A' n' c']] W (Re W (.tuple #[.string t, .int .i64 0])) from fun W A n c A' n' c' h1 h2 h3 h4 hT => by have := impl_MT_any W A n c o6 q6 A' n' c' u6 h1 h2 h3 h4 hT; rw [hmt, hcm] at this; exact this)
              clear hm htt hmt hcm HCd HP1 HP2
              have hWb := hW.b
              have z0 := hWb.cell 0
              have z1 := hWb.cell 1
              have z2 := hWb.cell 2
              go_wp2_with fail
              clear z0 z1 z2 hWb
              refine (HTt.out _ _ _ _ _ _ _ hW.s1 hW.s2 (by omega) (by omega) (hT.bel hW.kk).p).mono ?_
              rintro e w10 ⟨rfl, hbn⟩
              replace hW := hW.all hbn
              clear hbn
              go_wp2_with fail
              go_ret
              exact ⟨by simp, hW.kk⟩
            · exact absurd hK h9
          · go_wp2_with fail
            go_ret
            exact ⟨rfl, hW.kk⟩
end Go.Proofs.YtonehmjoolflfaaGreatDoor
