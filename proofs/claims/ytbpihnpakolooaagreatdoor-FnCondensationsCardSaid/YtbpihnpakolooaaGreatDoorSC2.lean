
/- The walk of the law FnCondensations. -/
import Derived.Test.YtbpihnpakolooaaGreatDoorSCa
import Derived.Test.YtbpihnpakolooaaGreatDoorANa
import Derived.Test.YtbpihnpakolooaaGreatDoorSla
import Derived.Deep.DeepCutAuto
namespace Go.Proofs.YtbpihnpakolooaaGreatDoor
open Go Go.RowKit Grp
set_option linter.unusedSimpArgs false
set_option linter.unusedVariables false
/-- A condensation lies in block Q. -/
structure QB (Q : Nat) (A1 : Option Addr) (c1 : Nat) (F : Option Addr) (f : Nat) (A2 : Option Addr) (c2 : Nat) (ls : List Int) (tb : List (List Int)) (D : Int) (vv : List Int) (wx : World) : Prop where
 b : Blk wx Q 31 #[.slice A1 ls.length c1, .slice F tb.length f, .int .i64 D, .slice A2 vv.length c2]
 s1 : Sl wx wx.heap.size A1 ls.length c1 ls
 s2 : Sl2 wx wx.heap.size F tb.length f tb
 s3 : Sl wx wx.heap.size A2 vv.length c2 vv
section
variable {wx wy : World} {Q : Nat} {A1 A2 F : Option Addr} {c1 c2 f : Nat} {ls vv : List Int} {tb : List (List Int)} {D : Int}
theorem QB.all (h : QB Q A1 c1 F f A2 c2 ls tb D vv wx) (hb : Below wx.heap.size wx wy) : QB Q A1 c1 F f A2 c2 ls tb D vv wy :=
 ⟨h.b.all hb, h.s1.mov hb, (h.s2.below hb).more hb.size, h.s3.mov hb⟩
theorem QB.new (s1 : Sl wx wx.heap.size A1 ls.length c1 ls) (s2 : Sl2 wx wx.heap.size F tb.length f tb) (s3 : Sl wx wx.heap.size A2 vv.length c2 vv) :
  QB wx.heap.size A1 c1 F f A2 c2 ls tb D vv (wx.alloc (.cells #[.slice A1 ls.length c1, .slice F tb.length f, .int .i64 D, .slice A2 vv.length c2] 31)) :=
 have hb : Below wx.heap.size wx (wx.alloc (.cells #[.slice A1 ls.length c1, .slice F tb.length f, .int .i64 D, .slice A2 vv.length c2] 31)) := (Below.refl _ _).alloc (Nat.le_refl _) _
 ⟨Blk.new _ _ _, s1.mov hb, (s2.below hb).more hb.size, s3.mov hb⟩
theorem quot_open {w : World} {v : Value} {x : quotient_T} {fp : Nat → Prop} (h : quotient_E w v x fp) : ∃ A1 c1 F f A2 c2, v = .agg #[.slice A1 x.1.length c1, .slice F x.2.1.length f, .int .i64 x.2.2.1, .slice A2 x.2.2.2.length c2] ∧ Sl w w.heap.size A1 x.1.length c1 x.1 ∧ Sl2 w w.heap.size F x.2.1.length f x.2.1 ∧ Sl w w.heap.size A2 x.2.2.2.length c2 x.2.2.2 := by
 obtain ⟨A, n, c, F, p, f, D, m, e, rfl, h1, h2, h3⟩ := quotient_rd h
 obtain rfl := h1.len
 obtain rfl := h2.len
 obtain rfl := h3.len
 exact ⟨A, c, F, f, D, e, rfl, h1, h2, h3⟩
end
set_option maxRecDepth 100000 in
set_option maxHeartbeats 8000000 in
theorem law_Condensations {w : World} (hT : Tb w) (A : Option Addr) (n c : Nat) (bs : List Int) (h : BlIn w A n c bs) : Calls Tryz.prog 3 #[.slice A n c] w (Re w (.bool true)) := by
 by_cases hn0 : 4096 < n
 ·have hd : decide (4096 < (n : Int)) = true := decide_eq_true (by omega)
  have Hd := hide hd
  clear hd
  go_enter Tryz.func3, Tryz.ntmps3
  go_wp2_with fail
  refine (big_any _ A n c).mono ?_
  rintro e w1 ⟨rfl, m, rfl⟩
  rw [Hd.out]
  go_wp2
  go_ret
  exact ⟨rfl, (by repeat (first | assumption | exact Below.refl _ _ | apply below_drewN | apply Below.drew | apply Below.alloc | apply Below.setCell | omega | (focus (simp; done)) | (focus (simp; omega))))⟩
 ·have hn : n ≤ 4096 := by omega
  have hd : decide (4096 < (n : Int)) = false := decide_eq_false (by omega)
  have Hd := hide hd
  clear hd
  have hS := h.sl
  go_enter Tryz.func3, Tryz.ntmps3
  go_wp2_with fail
  refine (big_any _ A n c).mono ?_
  rintro e w1 ⟨rfl, m, rfl⟩
  rw [Hd.out]
  have kk : Below w.heap.size w (w.drewN m) := below_drewN (Below.refl _ _) _
  obtain ⟨w1, hw1⟩ : ∃ w1, w.drewN m = w1 := ⟨_, rfl⟩
  rw [hw1] at kk ⊢
  clear hw1
  have hsz := kk.size
  have hb1 : SlB w1 w1.heap.size A n c bs := ⟨hS.len, hS.cap, hS.rng, fun h0 => by
   obtain ⟨b, off, e, hlt, hc⟩ := hS.at_ h0
   exact ⟨b, off, e, by omega, fun k hk => (kk.cell (p := ⟨b, off + k, none⟩) hlt).trans (hc k hk)⟩⟩
  go_wp2_with fail
  refine (drawCond_any w1 A n c bs hb1 hn).mono ?_
  rintro e w2 ⟨A1, c1, A2, c2, os, q, vs, L, lc, xs, rfl, hG, hx, s1, s2, s3, -, hr, hb2⟩
  have kk2 := kk.trans (hb2.mono hsz)
  have hX := GX.new (q := q) s1 s2 s3 kk2
  have lo := hG.o
  have lv := hG.v
  clear s1 s2 s3 hb2
  obtain ⟨w3, hw3⟩ : ∃ w3, w2.alloc (.cells #[.slice A1 os.length c1, .int .i64 q, .slice A2 vs.length c2] 26) = w3 := ⟨_, rfl⟩
  rw [hw3] at hX
  obtain ⟨M, hM⟩ : ∃ M, w2.heap.size = M := ⟨_, rfl⟩
  rw [hM] at hX
  have hC1 := fun W A n c A' n' c' LL l lc h h' hx hn hn' hl => impl_Cond_any W A n c os q A' n' c' vs LL l lc xs h h' hx hn hn' hl
  have hC2 := fun W A n c A' n' c' LL l lc h h' hx hn hn' hl => spec_Cond_any W A n c os q A' n' c' vs LL l lc xs h h' hx hn hn' hl
  obtain ⟨K1, hK1⟩ : ∃ k, codeI os q vs xs = k := ⟨_, rfl⟩
  obtain ⟨X, hX0⟩ : ∃ X, cqR os q vs xs = X := ⟨_, rfl⟩
  obtain ⟨ls, tb, D, vv⟩ := X
  simp only [hK1, hX0] at hC1 hC2
  have HK1 := hide hK1
  have HX0 := hide hX0
  have HC1 := hide hC1
  have HC2 := hide hC2
  have hlen : ls.length ≤ 64 ∧ tb.length ≤ 64 ∧ vv.length ≤ 64 ∧ ∀ y ∈ tb, y.length ≤ 1048576 := by have := cq_len os q vs xs lv; rw [hX0] at this; exact this
  have HLen := hide hlen
  clear hlen hC1 hC2 hK1 hX0
  have hMb := hX.m.b
  have x0 := hMb.cell 0
  have x1 := hMb.cell 1
  have x2 := hMb.cell 2
  go_wp2_with fail
  clear hMb x0 x1 x2
  refine (HC1.out _ _ _ _ _ _ _ _ _ _ hX.m.s1 hX.m.s2 hX.s3 (by omega) (by omega) (by omega)).mono ?_
  rintro e wn ⟨v1, rfl, o1, hbn⟩
  replace hX := hX.all hbn
  clear hw3 hM hbn
  obtain ⟨B1, b1, F1, f1, B2, b2, rfl, t1, t2, t3⟩ := quot_open o1
  clear o1
  dsimp only at t1 t2 t3 ⊢
  have hQ := QB.new (D := D) t1 t2 t3
  clear t1 t2 t3
  replace hX := hX.all ((Below.refl _ _).alloc (Nat.le_refl _) (.cells #[.slice B1 ls.length b1, .slice F1 tb.length f1, .int .i64 D, .slice B2 vv.length b2] 31))
  obtain ⟨w4, hw4⟩ : ∃ w4, wn.alloc (.cells #[.slice B1 ls.length b1, .slice F1 tb.length f1, .int .i64 D, .slice B2 vv.length b2] 31) = w4 := ⟨_, rfl⟩
  rw [hw4] at hX hQ
  obtain ⟨Q1, hQ1⟩ : ∃ M, wn.heap.size = M := ⟨_, rfl⟩
  rw [hQ1] at hQ
  have hMb := hX.m.b
  have x0 := hMb.cell 0
  have x1 := hMb.cell 1
  have x2 := hMb.cell 2
  go_wp2_with fail
  clear hMb x0 x1 x2
  refine (HC2.out _ _ _ _ _ _ _ _ _ _ hX.m.s1 hX.m.s2 hX.s3 (by omega) (by omega) (by omega)).mono ?_
  rintro e wn ⟨v1, rfl, o1, hbn⟩
  replace hX := hX.all hbn
  replace hQ := hQ.all hbn
  clear hw4 hQ1 hbn
  obtain ⟨B3, b3, F2, f2, B4, b4, rfl, t1, t2, t3⟩ := quot_open o1
  clear o1
  dsimp only at t1 t2 t3 ⊢
  have hP := QB.new (D := D) t1 t2 t3
  clear t1 t2 t3
  replace hX := hX.all ((Below.refl _ _).alloc (Nat.le_refl _) (.cells #[.slice B3 ls.length b3, .slice F2 tb.length f2, .int .i64 D, .slice B4 vv.length b4] 31))
  replace hQ := hQ.all ((Below.refl _ _).alloc (Nat.le_refl _) (.cells #[.slice B3 ls.length b3, .slice F2 tb.length f2, .int .i64 D, .slice B4 vv.length b4] 31))
  obtain ⟨w5, hw5⟩ : ∃ w5, wn.alloc (.cells #[.slice B3 ls.length b3, .slice F2 tb.length f2, .int .i64 D, .slice B4 vv.length b4] 31) = w5 := ⟨_, rfl⟩
  rw [hw5] at hX hQ hP
  obtain ⟨Q2, hQ2⟩ : ∃ M, wn.heap.size = M := ⟨_, rfl⟩
  rw [hQ2] at hP
  have hMb := hX.m.b
  have x0 := hMb.cell 0
  have x1 := hMb.cell 1
  have x2 := hMb.cell 2
  go_wp2_with fail
  clear hMb x0 x1 x2
  refine (impl_Iso_any _ _ _ _ os q _ _ _ vs _ _ _ xs hX.m.s1 hX.m.s2 hX.s3 (by omega) (by omega) (by omega)).mono ?_
  rintro e wn ⟨rfl, hbn⟩
  replace hX := hX.all hbn
  replace hQ := hQ.all hbn
  replace hP := hP.all hbn
  clear hw5 hQ2 hbn
  have hMb := hX.m.b
  have x0 := hMb.cell 0
  have x1 := hMb.cell 1
  have x2 := hMb.cell 2
  go_wp2_with fail
  clear hMb x0 x1 x2
  refine (spec_Iso_any _ _ _ _ os q _ _ _ vs _ _ _ xs hX.m.s1 hX.m.s2 hX.s3 (by omega) (by omega) (by omega)).mono ?_
  rintro e wn ⟨rfl, hbn⟩
  replace hX := hX.all hbn
  replace hQ := hQ.all hbn
  replace hP := hP.all hbn
  clear hbn
  have hNo := cd_none (os := os) (D := q) (vs := vs) (xs := xs)
  obtain ⟨K3, hK3⟩ : ∃ k, codeS os q vs xs = k := ⟨_, rfl⟩
  obtain ⟨Bq, hBq⟩ : ∃ k, isB os q vs xs = k := ⟨_, rfl⟩
  rw [hK3, hBq]
  rw [hK3, hBq, HK1.out] at hNo
  have HNo := hide hNo
  have HK3 := hide hK3
  have HBq := hide hBq
  clear hNo hK3 hBq
  obtain ⟨hl1, hl2, hl3, hl4⟩ := HLen.out
  have HL4 := hide hl4
  clear hl4
  have hqb := hQ.b
  have hpb := hP.b
  have x0 := hqb.cell 0
  have x1 := hqb.cell 1
  have x2 := hqb.cell 2
  have x3 := hqb.cell 3
  have y0 := hpb.cell 0
  have y1 := hpb.cell 1
  have y2 := hpb.cell 2
  have y3 := hpb.cell 3
  go_wp2_with fail
  (try clear hqb hpb x0 x1 x2 x3 y0 y1 y2 y3)
  refine (likeInts_any _ _ _ _ _ _ _ _ _ _ _ hQ.s1 hP.s1 (by omega)).mono ?_
  rintro e wa ⟨rfl, dm, hdm⟩
  have hbl : Below wn.heap.size wn wa := hdm ▸ below_drewN (Below.refl _ _) _
  clear hdm
  replace hX := hX.all hbl
  replace hQ := hQ.all hbl
  replace hP := hP.all hbl
  clear hbl
  simp only [beq_self_eq_true]
  have hqb := hQ.b
  have hpb := hP.b
  have x0 := hqb.cell 0
  have x1 := hqb.cell 1
  have x2 := hqb.cell 2
  have x3 := hqb.cell 3
  have y0 := hpb.cell 0
  have y1 := hpb.cell 1
  have y2 := hpb.cell 2
  have y3 := hpb.cell 3
  go_wp2_with fail
  (try clear hqb hpb x0 x1 x2 x3 y0 y1 y2 y3)
  refine (likeRows_any _ _ _ _ _ _ _ _ _ _ _ hQ.s2 hP.s2 (by omega) HL4.out).mono ?_
  rintro e wb ⟨rfl, dm, hdm⟩
  have hbl : Below wa.heap.size wa wb := hdm ▸ below_drewN (Below.refl _ _) _
  clear hdm
  replace hX := hX.all hbl
  replace hQ := hQ.all hbl
  replace hP := hP.all hbl
  clear hbl
  simp only [beq_self_eq_true]
  have hqb := hQ.b
  have hpb := hP.b
  have x0 := hqb.cell 0
  have x1 := hqb.cell 1
  have x2 := hqb.cell 2
  have x3 := hqb.cell 3
  have y0 := hpb.cell 0
  have y1 := hpb.cell 1
  have y2 := hpb.cell 2
  have y3 := hpb.cell 3
  go_wp2_with fail
  (try clear hqb hpb x0 x1 x2 x3 y0 y1 y2 y3)
  refine (likeInts_any _ _ _ _ _ _ _ _ _ _ _ hQ.s3 hP.s3 (by omega)).mono ?_
  rintro e wd ⟨rfl, dm, hdm⟩
  have hbl : Below wb.heap.size wb wd := hdm ▸ below_drewN (Below.refl _ _) _
  clear hdm
  replace hX := hX.all hbl
  replace hQ := hQ.all hbl
  replace hP := hP.all hbl
  clear hbl
  simp only [beq_self_eq_true]
  by_cases h1 : K1 = 0
  ·subst h1
   have hI := HK1.out
   obtain ⟨hBt, hS0⟩ := cd_isB hI
   obtain rfl : K3 = 0 := HK3.out.symm.trans hS0
   obtain rfl : Bq = true := HBq.out.symm.trans hBt
   have IM := (cd_cs hI).1.m
   have hq := (cd_q hI).symm.trans HX0.out
   injection hq with e1 hq
   injection hq with e2 hq
   injection hq with e3 e4
   have hg0 : 0 ≤ qgR os q vs xs ∧ qgR os q vs xs < 55441 := by
    unfold qgR; exact ⟨by omega, by omega⟩
   have hvp := (cd_vals hI).2
   have hvl := (cd_vals hI).1
   rw [e4] at hvp
   rw [e1] at hvl
   have hsz := cd_sizes hI
   rw [e1] at hsz
   have hd2 := IM.ok.d2
   have hvr : ∀ x ∈ vv, 0 ≤ x ∧ x ≤ 1000000 := fun x hx => by
    rw [← e4] at hx
    obtain ⟨y, hy, rfl⟩ := List.mem_map.1 hx
    have hy2 := ldP_rng hI hy
    have := Vl_rng IM hy2.2.1 (show y < vs.length by have := IM.ok.len; omega)
    omega
   have hwr : ∀ x ∈ voR os q vs xs, 0 ≤ x ∧ x ≤ 1000000 := fun x hx => hvr x (hvp.mem_iff.1 hx)
   have hsum := perm_sum hvp
   have hogO : ogL os q vs xs = ortL os q vs xs vs.length := by unfold ogL; rw [if_pos hS0]
   have hol : (ortL os q vs xs vs.length).length ≤ vs.length := ortL_len _ _ _ _ _
   have HG := hide (cd_gauss hI)
   have HG0 := hide (codeG_0 (k := 1) IM (by decide))
   have HI := hide hI
   have HS0 := hide hS0
   have HogO := hide hogO
   have Hsum := hide hsum
   have Hsz := hide hsz
   have Hvl := hide hvl
   have HvR := hide hvr
   have HwR := hide hwr
   have HIM := hide IM
   have He1 := hide e1
   have He2 := hide e2
   have He4 := hide e4
   clear hI hBt hS0 e1 e2 e3 e4 hvp hvl hsz hvr hwr hsum hogO IM hd2
   have hMb := hX.m.b
   have x0 := hMb.cell 0
   have x1 := hMb.cell 1
   have x2 := hMb.cell 2
   go_wp2_with fail
   clear hMb x0 x1 x2
   refine (impl_Gauss_any _ _ _ _ os q _ _ _ vs 1 hX.m.s1 hX.m.s2 (by omega) (by omega)).mono ?_
   rintro e wn ⟨rfl, hbn⟩
   replace hX := hX.all hbn
   rw [HG.out, HG0.out]
   replace hQ := hQ.all hbn
   clear hbn hP
   have hMb := hX.m.b
   have x0 := hMb.cell 0
   have x1 := hMb.cell 1
   have x2 := hMb.cell 2
   go_wp2_with fail
   clear hMb x0 x1 x2
   refine (impl_QG_any _ _ _ _ os q _ _ _ vs _ _ _ xs hX.m.s1 hX.m.s2 hX.s3 (by omega) (by omega) (by omega)).mono ?_
   rintro e wn ⟨rfl, hbn⟩
   replace hX := hX.all hbn
   rw [HI.out]
   replace hQ := hQ.all hbn
   clear hbn
   have hMb := hX.m.b
   have x0 := hMb.cell 0
   have x1 := hMb.cell 1
   have x2 := hMb.cell 2
   go_wp2_with fail
   clear hMb x0 x1 x2
   refine (impl_VO_any _ _ _ _ os q _ _ _ vs _ _ _ xs hX.m.s1 hX.m.s2 hX.s3 (by omega) (by omega) (by omega)).mono ?_
   rintro e wn ⟨v1, rfl, o1, hbn⟩
   replace hX := hX.all hbn
   rw [HI.out]
   obtain ⟨R1, d1, rfl, sV⟩ := o1.sl (fun x hx => by have := HwR.out x hx; exact ⟨by omega, by omega⟩)
   replace hQ := hQ.all hbn
   clear o1 hbn
   have hMb := hX.m.b
   have x0 := hMb.cell 0
   have x1 := hMb.cell 1
   have x2 := hMb.cell 2
   go_wp2_with fail
   clear hMb x0 x1 x2
   refine (impl_Ort_any _ _ _ _ os q _ _ _ vs _ _ _ xs hX.m.s1 hX.m.s2 hX.s3 (by omega) (by omega) (by omega)).mono ?_
   rintro e wn ⟨v1, rfl, o1, hbn⟩
   replace hX := hX.all hbn
   rw [HS0.out]
   obtain ⟨R2, d2, rfl, sO⟩ := o1.sl (ogL_rng os q vs xs lv)
   rw [HogO.out] at sO ⊢
   replace hQ := hQ.all hbn
   replace sV := sV.mov hbn
   clear o1 hbn
   obtain ⟨O, hO⟩ : ∃ O, ortL os q vs xs vs.length = O := ⟨_, rfl⟩
   obtain ⟨V, hV⟩ : ∃ V, voR os q vs xs = V := ⟨_, rfl⟩
   obtain ⟨g, hg⟩ : ∃ g, qgR os q vs xs = g := ⟨_, rfl⟩
   rw [hO] at sO hol
   rw [hV] at sV HwR Hsum Hvl
   rw [hO] at Hsz
   rw [hg] at hg0
   rw [hO, hV, hg]
   have HO := hide hO
   clear hO hV hg
   have hvl := Hvl.out
   rw [hvl] at sV ⊢
   have htl : tb.length = ls.length := by rw [← He2.out, ← He1.out]; unfold ctab; rw [List.length_map]
   have hgl : 0 ≤ (xs.length : Int) * g ∧ (xs.length : Int) * g ≤ 100 * 55441 := ⟨Int.mul_nonneg (by omega) hg0.1, Int.mul_le_mul (by omega) (by omega) hg0.1 (by omega)⟩
   have u1 : IntKind.i64.wrap ((xs.length : Int) * g) = (xs.length : Int) * g := wr64 _ ⟨by omega, by omega⟩
   have u2 : IntKind.i64.wrap ((ls.length : Int) * (xs.length : Int)) = (O.length : Int) := by
    rw [← Hsz.out, Int.natCast_mul]
    have : (ls.length : Int) * (xs.length : Int) ≤ 64 * 100 := Int.mul_le_mul (by omega) (by omega) (by omega) (by omega)
    have h0 : 0 ≤ (ls.length : Int) * (xs.length : Int) := Int.mul_nonneg (by omega) (by omega)
    exact wr64 _ ⟨by omega, by omega⟩
   have hs1 := hide (fun W (h : Dr wn W) => show Calls Tryz.prog 19 #[.slice R1 ls.length d1] W (Qt W (.int .i64 vv.sum)) from Hsum.out ▸ sum_any W _ _ _ _ V (sV.below (h.all (B := wn.heap.size))) (by omega) HwR.out)
   have hs2 := hide (fun W (h : Dr wn W) => sum_any W _ _ _ _ vv (hQ.s3.below (h.all (B := wn.heap.size))) (by omega) HvR.out)
   obtain ⟨sg, hsg⟩ : ∃ s, vv.sum = s := ⟨_, rfl⟩
   rw [hsg] at hs1 hs2
   obtain ⟨xg, hxg⟩ : ∃ s, (xs.length : Int) * g = s := ⟨_, rfl⟩
   rw [hxg] at hgl u1 ⊢
   have Hxg := hide hxg
   clear hvl hsg
   have hqb := hQ.b
   have x0 := hqb.cell 0
   have x1 := hqb.cell 1
   have x2 := hqb.cell 2
   have x3 := hqb.cell 3
   go_upto_region 16 with fail
   refine wp_region_dr [0, 1, 2, 3, 4, 5, 6, 7, 8, 9, 10, 11, 12, 13, 14, 15, 16, 17, 18, 19, 20, 21, 22, 23, 24, 25, 26, 27, 28, 29, 30, 31, 32, 33, 34, 35, 36, 37, 38, 39, 40, 41, 42, 43, 44, 45, 46, 47, 49, 50, 48, 51, 52, 53, 54, 55, 56, 57, 58, 59, 60, 61, 62] 63 wn (by kernel_rfl) (by kernel_rfl) (by kernel_rfl) (fun _ _ _ _ _ h => h) (Dr.refl _) (fun wd hDr => ?_)
   repeat (first | (apply ord_tk rfl (by rfl) (by rfl) (by rfl); (focus (rintro w ⟨dm, rfl⟩; go_simp; (try with_reducible rfl))); (try simp only [Act.put, List.setIfInBounds_toArray, List.set_cons_zero, List.set_cons_succ])) | (apply ord_skip rfl (by rfl) (by rfl) (fun _ => hDr); (try simp only [Act.put, List.setIfInBounds_toArray, List.set_cons_zero, List.set_cons_succ])))
   refine ord_do rfl (by rfl) (by rfl) (fun K hK => ?_)
   go_simp
   refine (mod5_any _ _ (by omega) (by omega)).mono ?_
   rintro e wd' ⟨rfl, dm, hwd⟩
   replace hDr := hDr.step hwd
   clear hwd
   refine hK.out _ _ (fun _ => hDr) ?_
   (try simp only [Act.put, List.setIfInBounds_toArray, List.set_cons_zero, List.set_cons_succ])
   clear hK K
   repeat (first | (apply ord_tk rfl (by rfl) (by rfl) (by rfl); (focus (rintro w ⟨dm, rfl⟩; go_simp; (try with_reducible rfl))); (try simp only [Act.put, List.setIfInBounds_toArray, List.set_cons_zero, List.set_cons_succ])) | (apply ord_skip rfl (by rfl) (by rfl) (fun _ => hDr); (try simp only [Act.put, List.setIfInBounds_toArray, List.set_cons_zero, List.set_cons_succ])))
   refine ord_do rfl (by rfl) (by rfl) (fun K hK => ?_)
   go_simp
   refine (hs1.out _ hDr).mono ?_
   rintro e wd' ⟨rfl, dm, hwd⟩
   replace hDr := hDr.step hwd
   clear hwd
   refine hK.out _ _ (fun _ => hDr) ?_
   (try simp only [Act.put, List.setIfInBounds_toArray, List.set_cons_zero, List.set_cons_succ])
   clear hK K
   repeat (first | (apply ord_tk rfl (by rfl) (by rfl) (by rfl); (focus (rintro w ⟨dm, rfl⟩; go_simp; (try with_reducible rfl))); (try simp only [Act.put, List.setIfInBounds_toArray, List.set_cons_zero, List.set_cons_succ])) | (apply ord_skip rfl (by rfl) (by rfl) (fun _ => hDr); (try simp only [Act.put, List.setIfInBounds_toArray, List.set_cons_zero, List.set_cons_succ])))
   refine ord_do rfl (by rfl) (by rfl) (fun K hK => ?_)
   go_simp
   refine (hs2.out _ hDr).mono ?_
   rintro e wd' ⟨rfl, dm, hwd⟩
   replace hDr := hDr.step hwd
   clear hwd
   refine hK.out _ _ (fun _ => hDr) ?_
   (try simp only [Act.put, List.setIfInBounds_toArray, List.set_cons_zero, List.set_cons_succ])
   clear hK K
   repeat (first | (apply ord_tk rfl (by rfl) (by rfl) (by rfl); (focus (rintro w ⟨dm, rfl⟩; go_simp; (try with_reducible rfl))); (try simp only [Act.put, List.setIfInBounds_toArray, List.set_cons_zero, List.set_cons_succ])) | (apply ord_skip rfl (by rfl) (by rfl) (fun _ => hDr); (try simp only [Act.put, List.setIfInBounds_toArray, List.set_cons_zero, List.set_cons_succ])))
   refine ord_nil ?_
   replace hX := hX.all hDr.all
   replace hQ := hQ.all hDr.all
   clear hDr hqb x0 x1 x2 x3 u1 u2 hs1 hs2 sV sO hgl Hxg
   have hqb := hQ.b
   have x0 := hqb.cell 0
   obtain ⟨i0, hi0, hz0, hz1, hz2⟩ := info_parts bool_info
   have hmk := fun W => run_make (P := Tryz.prog) (w := W) 45 4 i0 (.bool false) Tryz.underlying45 hi0 hz0 .i64 .i64 ls.length ls.length (by omega) (by omega) (by rw [hz2]; omega) (by omega)
   simp only [hz1, Int.toNat_natCast, Nat.mul_one] at hmk
   have HMK := hide hmk
   have HTL := hide htl
   clear hmk hi0 hz0 hz1 hz2 htl
   have HTB := hide (show ctab os xs ls = tb by rw [← He2.out, He1.out])
   go_upto_region 19 with fail
   clear hqb x0
   go_wp2_with fail
   go_loopw [22] (fun i wr => ∃ a : Nat, a ≤ ls.length ∧ i = .int .i64 a ∧ GX w M A1 c1 A2 c2 L lc os q vs xs wr ∧ QB Q1 B1 b1 F1 f1 B2 b2 ls tb D vv wr) (fun i _ => ls.length - (intOf i).toNat)
   case atStart => exact ⟨0, by omega, rfl, hX, hQ⟩
   case round =>
    clear hX hQ
    obtain ⟨a, ha, rfl, hX, hQ⟩ := hrel
    by_cases hlt : a < ls.length
    ·obtain ⟨row, hrow, hrl, hre⟩ := tab_row He1.out hlt
     rw [HTB.out] at hrow
     obtain ⟨bF, oF, rfl, hbF⟩ := RdL.addr hQ.s2 (by rw [HTL.out]; omega)
     obtain ⟨A5, n5, c5, cT, sR⟩ := hQ.s2.row hrow
     obtain rfl := sR.len
     have Hrow := hide hrow
     have Hre := hide hre
     rw [hrl] at cT
     have Hrl := hide hrl
     have hcapT := hQ.s2.cap
     rw [HTL.out] at hcapT
     have hqb := hQ.b
     rw [HTL.out] at hqb
     have x0 := hqb.cell 0
     have x1 := hqb.cell 1
     clear hrow hre hrl
     have hmk := HMK.out wr
     obtain ⟨wm, hwm⟩ : ∃ wm, wr.alloc (.cells (madeCells #[.bool false] ls.length) 4) = wm := ⟨_, rfl⟩
     have bq : Blk wm wr.heap.size 4 (metC [] ls.length) := by rw [← hwm, metC_made]; exact Blk.new _ _ _
     have hba : Below wr.heap.size wr wm := by rw [← hwm]; exact (Below.refl _ _).alloc (Nat.le_refl _) _
     obtain ⟨Gm, hGm⟩ : ∃ g, wr.heap.size = g := ⟨_, rfl⟩
     go_upto_region 25 with fail
     have hX0 := hX
     have hQ0 := hQ
     rw [hGm] at bq hba
     have HGm := hide hGm
     clear hwm hGm hmk hqb x0 x1 cT sR hcapT hbF hX hQ
     go_wp2_with fail
     go_loopw [24] (fun i wq => ∃ k : Nat, k ≤ ls.length ∧ i = .int .i64 k ∧ Below Gm wr wq ∧ Blk wq Gm 4 (metC ((List.range k).map (cF os xs ls a)) ls.length)) (fun i _ => ls.length - (intOf i).toNat)
     case atStart => exact ⟨0, by omega, rfl, hba, bq⟩
     case round =>
      clear hba bq
      obtain ⟨k, hk, rfl, hBe, bq⟩ := hrel
      have hX := hX0.all (HGm.out.symm ▸ hBe)
      have hQ := hQ0.all (HGm.out.symm ▸ hBe)
      by_cases hlk : k < ls.length
      ·obtain ⟨A5, n5, c5, cT, sR⟩ := hQ.s2.row Hrow.out
       obtain rfl := sR.len
       obtain ⟨bR, oR, rfl, hbR, hcR⟩ := sR.at_ (by rw [Hrl.out]; omega)
       have cv := hcR k (by rw [Hrl.out]; exact hlk)
       rw [Hre.out k hlk] at cv
       obtain ⟨rowk, hrowk, hrlk, hrek⟩ := tab_row He1.out hlk
       rw [HTB.out] at hrowk
       obtain ⟨A6, n6, c6, cT2, sR2⟩ := hQ.s2.row hrowk
       obtain rfl := sR2.len
       obtain ⟨bS, oS, rfl, hbS, hcS⟩ := sR2.at_ (by rw [hrlk]; omega)
       have cv2 := hcS a (by rw [hrlk]; exact hlt)
       rw [hrek a hlt, tab_comm] at cv2
       have hcap1 := sR.cap
       have hcap2 := sR2.cap
       rw [hrlk] at cT2 hcap2
       rw [Hrl.out] at cT hcap1
       obtain ⟨t0, t1, t2⟩ := tab_in HI.out He1.out hlt hlk
       have hni : hasB ((List.range k).map (cF os xs ls a)) (cF os xs ls a k) = false := by
        cases hb : hasB ((List.range k).map (cF os xs ls a)) (cF os xs ls a k) with
        | false => rfl
        | true =>
         obtain ⟨l, hl, e⟩ := List.mem_map.1 (hasB_iff.1 hb)
         have hl2 := List.mem_range.1 hl
         have := tab_inj HI.out He1.out hlt (by omega) hlk e
         omega
       have hnx : (List.range (k + 1)).map (cF os xs ls a) = (List.range k).map (cF os xs ls a) ++ [cF os xs ls a k] := by rw [List.range_succ, List.map_append]; rfl
       obtain ⟨cn, hcn⟩ := Int.eq_ofNat_of_zero_le t0
       rw [hcn] at cv cv2 t1 t2 hni hnx
       have hcnl : cn < ls.length := by omega
       have g1 := (bq.cell cn).trans (metC_get hcnl)
       rw [hni] at g1
       have g2 := bq.frozen cn
       have T2 := hide t2
       have Hnx := hide hnx
       have Hcn := hide hcn
       have hqb := hQ.b
       rw [HTL.out] at hqb
       have x0 := hqb.cell 0
       have x1 := hqb.cell 1
       have hcapT := hQ.s2.cap
       rw [HTL.out] at hcapT
       clear hcn hnx t2 hni hcR hcS hrowk hrek hrlk sR sR2
       go_upto_region 32 with fail
       have hBs := hBe.setCell (p := ⟨Gm, cn, none⟩) (Nat.le_refl _) (.bool true)
       have bs : Blk (wr.setCell ⟨Gm, cn, none⟩ (.bool true)) Gm 4 (metC ((List.range (k + 1)).map (cF os xs ls a)) ls.length) := by rw [Hnx.out, ← metC_set]; exact bq.store cn _
       obtain ⟨ws, hws⟩ : ∃ x, wr.setCell ⟨Gm, cn, none⟩ (.bool true) = x := ⟨_, rfl⟩
       rw [hws] at hBs bs ⊢
       clear hws g1 g2 cv cv2 cT cT2 x0 x1 hqb hX hQ bq hBe hcapT hcap1 hcap2 hbR hbS
       have hX := hX0.all (HGm.out.symm ▸ hBs)
       have hQ := hQ0.all (HGm.out.symm ▸ hBs)
       obtain ⟨bL, oL, rfl, hbL, hcL⟩ := hQ.s1.at_ (by omega)
       have cl1 := hcL a hlt
       have cl2 := hcL k hlk
       have cl3 := hcL cn hcnl
       obtain ⟨u, hu⟩ : ∃ u, gi ls a = u := ⟨_, rfl⟩
       obtain ⟨v, hv⟩ : ∃ v, gi ls k = v := ⟨_, rfl⟩
       obtain ⟨y, hy⟩ : ∃ y, gi ls cn = y := ⟨_, rfl⟩
       have mu : u ∈ ldP os q vs xs := by rw [He1.out, ← hu]; exact gi_mem hlt
       have mv : v ∈ ldP os q vs xs := by rw [He1.out, ← hv]; exact gi_mem hlk
       have my : y ∈ ldP os q vs xs := by rw [He1.out, ← hy]; exact gi_mem hcnl
       have ru := ldP_rng HI.out mu
       have rv := ldP_rng HI.out mv
       have ry := ldP_rng HI.out my
       have hcs := cd_sum HI.out mu mv
       have ey : y = ldr os xs (Ar os u v) := by rw [← hy, ← hu, ← hv]; have := T2.out; rwa [Int.toNat_natCast] at this
       rw [hu] at cl1
       rw [hv] at cl2
       rw [hy] at cl3
       obtain ⟨s, hs⟩ : ∃ s, Ar os u v = s := ⟨_, rfl⟩
       rw [hs] at hcs ey
       obtain ⟨T, hTT⟩ : ∃ T, rp q.toNat (Vl vs s) = T := ⟨_, rfl⟩
       have hTy : rp q.toNat (Vl vs y) = T := by rw [ey, ← hcs.2.1]; exact hTT
       have HA := hide (fun W h h' => add_v HIM.out W A1 os.length c1 A2 vs.length c2 h h' (by omega) (by omega) ru.2.1 ru.2.2.1 rv.2.1 rv.2.2.1)
       rw [hs] at HA
       have HV := hide (fun W h h' => val_v HIM.out W A1 os.length c1 A2 vs.length c2 h h' (by omega) (by omega) hcs.2.2.1 hcs.2.2.2)
       rw [hTT] at HV
       have HW := hide (fun W h h' => val_v HIM.out W A1 os.length c1 A2 vs.length c2 h h' (by omega) (by omega) ry.2.1 ry.2.2.1)
       rw [hTy] at HW
       clear hcL hu hv hy mu mv my ru rv ry hcs ey hs hTT hTy t0 t1 T2
       have lq := hQ.b.lt
       have lm := hX.m.b.lt
       have hqb := hQ.b
       have x0 := hqb.cell 0
       have hmb := hX.m.b
       have m0 := hmb.cell 0
       have m1 := hmb.cell 1
       have m2 := hmb.cell 2
       refine wp_region_be [0, 1, 2, 3, 4, 5, 6, 7, 8, 9, 10, 11, 12, 13, 14, 15, 16] 16 ws.heap.size ws (by kernel_rfl) (by kernel_rfl) (by kernel_rfl) (fun _ _ _ _ _ h => h) (Below.refl _ _) (fun wd hBe => ?_)
       repeat (first | (apply ord_tk rfl (by rfl) (by rfl) (by rfl); (focus (intro wx hSw; have y0 := (hSw.cell (p := ⟨Q1, 0, none⟩) lq).trans x0; have y1 := (hSw.cell (p := ⟨M, 0, none⟩) lm).trans m0; have y2 := (hSw.cell (p := ⟨M, 1, none⟩) lm).trans m1; have y3 := (hSw.cell (p := ⟨M, 2, none⟩) lm).trans m2; have y4 := (hSw.cell (p := ⟨bL, oL + a, none⟩) hbL).trans cl1; have y5 := (hSw.cell (p := ⟨bL, oL + k, none⟩) hbL).trans cl2; go_simp; (try with_reducible rfl))); (try simp only [Act.put, List.setIfInBounds_toArray, List.set_cons_zero, List.set_cons_succ])) | (apply ord_skip rfl (by rfl) (by rfl) (fun _ => hBe); (try simp only [Act.put, List.setIfInBounds_toArray, List.set_cons_zero, List.set_cons_succ])))
       refine ord_do rfl (by rfl) (by rfl) (fun K hK => ?_)
       go_simp
       refine (HA.out _ ((hX.m.s1.below hBe).more hBe.size) ((hX.m.s2.below hBe).more hBe.size)).mono ?_
       rintro e wd' ⟨rfl, hwd⟩
       replace hBe := hBe.trans (hwd.mono hBe.size)
       clear hwd
       refine hK.out _ _ (fun _ => hBe) ?_
       (try simp only [Act.put, List.setIfInBounds_toArray, List.set_cons_zero, List.set_cons_succ])
       clear hK K
       repeat (first | (apply ord_tk rfl (by rfl) (by rfl) (by rfl); (focus (intro wx hSw; skip; go_simp; (try with_reducible rfl))); (try simp only [Act.put, List.setIfInBounds_toArray, List.set_cons_zero, List.set_cons_succ])) | (apply ord_skip rfl (by rfl) (by rfl) (fun _ => hBe); (try simp only [Act.put, List.setIfInBounds_toArray, List.set_cons_zero, List.set_cons_succ])))
       refine ord_do rfl (by rfl) (by rfl) (fun K hK => ?_)
       go_simp
       refine hK.out _ _ (fun h => absurd h (by omega)) ?_
       (try simp only [Act.put, List.setIfInBounds_toArray, List.set_cons_zero, List.set_cons_succ])
       clear hK K
       refine ord_nil ?_
       clear x0 m0 m1 m2 hqb hmb lq lm cl1 cl2
       replace cl3 := (hBe.cell (p := ⟨bL, oL + cn, none⟩) hbL).trans cl3
       replace hbL := Nat.lt_of_lt_of_le hbL hBe.size
       have zG : Gm ≤ ws.heap.size := Nat.le_of_lt bs.lt
       replace hBs := hBs.trans (hBe.mono zG)
       replace bs := bs.all hBe
       replace hX := hX.all hBe
       replace hQ := hQ.all hBe
       clear hBe zG
       have hMb := hX.m.b
       have x0 := hMb.cell 0
       have x1 := hMb.cell 1
       have x2 := hMb.cell 2
       go_wp2_with fail
       clear hMb x0 x1 x2
       refine (HV.out _ hX.m.s1 hX.m.s2).mono ?_
       rintro e wn ⟨rfl, hbn⟩
       replace hX := hX.all hbn
       replace cl3 := (hbn.cell (p := ⟨bL, oL + cn, none⟩) hbL).trans cl3
       replace hbL := Nat.lt_of_lt_of_le hbL hbn.size
       have zG := Nat.le_of_lt bs.lt
       replace hBs := hBs.trans (hbn.mono zG)
       replace bs := bs.all hbn
       replace hQ := hQ.all hbn
       clear hbn zG
       have lq := hQ.b.lt
       have lm := hX.m.b.lt
       have hqb := hQ.b
       have x0 := hqb.cell 0
       have hmb := hX.m.b
       have m0 := hmb.cell 0
       have m1 := hmb.cell 1
       have m2 := hmb.cell 2
       go_upto_region 34 with fail
       refine wp_region_be [0, 1, 2, 3, 4, 5, 6, 7, 8, 9, 10, 11] 11 wn.heap.size wn (by kernel_rfl) (by kernel_rfl) (by kernel_rfl) (fun _ _ _ _ _ h => h) (Below.refl _ _) (fun wd hBe => ?_)
       repeat (first | (apply ord_tk rfl (by rfl) (by rfl) (by rfl); (focus (intro wx hSw; have y0 := (hSw.cell (p := ⟨Q1, 0, none⟩) lq).trans x0; have y1 := (hSw.cell (p := ⟨M, 0, none⟩) lm).trans m0; have y2 := (hSw.cell (p := ⟨M, 1, none⟩) lm).trans m1; have y3 := (hSw.cell (p := ⟨M, 2, none⟩) lm).trans m2; have y4 := (hSw.cell (p := ⟨bL, oL + cn, none⟩) hbL).trans cl3; go_simp; (try with_reducible rfl))); (try simp only [Act.put, List.setIfInBounds_toArray, List.set_cons_zero, List.set_cons_succ])) | (apply ord_skip rfl (by rfl) (by rfl) (fun _ => hBe); (try simp only [Act.put, List.setIfInBounds_toArray, List.set_cons_zero, List.set_cons_succ])))
       refine ord_do rfl (by rfl) (by rfl) (fun K hK => ?_)
       go_simp
       refine (HW.out _ ((hX.m.s1.below hBe).more hBe.size) ((hX.m.s2.below hBe).more hBe.size)).mono ?_
       rintro e wd' ⟨rfl, hwd⟩
       replace hBe := hBe.trans (hwd.mono hBe.size)
       clear hwd
       refine hK.out _ _ (fun _ => hBe) ?_
       (try simp only [Act.put, List.setIfInBounds_toArray, List.set_cons_zero, List.set_cons_succ])
       clear hK K
       repeat (first | (apply ord_tk rfl (by rfl) (by rfl) (by rfl); (focus (intro wx hSw; skip; go_simp; (try with_reducible rfl))); (try simp only [Act.put, List.setIfInBounds_toArray, List.set_cons_zero, List.set_cons_succ])) | (apply ord_skip rfl (by rfl) (by rfl) (fun _ => hBe); (try simp only [Act.put, List.setIfInBounds_toArray, List.set_cons_zero, List.set_cons_succ])))
       refine ord_do rfl (by rfl) (by rfl) (fun K hK => ?_)
       go_simp
       refine hK.out _ _ (fun h => absurd h (by omega)) ?_
       (try simp only [Act.put, List.setIfInBounds_toArray, List.set_cons_zero, List.set_cons_succ])
       clear hK K
       refine ord_nil ?_
       clear x0 m0 m1 m2 hqb hmb lq lm cl3 HA HV HW
       have zG := Nat.le_of_lt bs.lt
       replace hBs := hBs.trans (hBe.mono zG)
       replace bs := bs.all hBe
       clear hBe zG hX hQ
       go_wp2_with fail
       go_roundw
       case rel => exact ⟨k + 1, by omega, by go_num, hBs, bs⟩
       case measure => simp [intOf] <;> omega
      ·go_wp2_with fail
       go_roundw
       case rel => exact ⟨a + 1, by omega, by go_num, hX, hQ⟩
       case measure => simp [intOf] <;> omega
    ·as_aux_lemma =>
      have hlk := hide (show ∀ x ∈ ifM os q vs (lagK os q vs), i64ok x from ifM_all fun _ x hx => lagK_sub x hx)
      have hlk2 := hide (show (ifM os q vs (lagK os q vs)).length ≤ 1048576 from ifM_tot (Nat.le_trans (List.length_filter_le _ _) (isoK_len os vs)))
      have hMb := hX.m.b
      have x0 := hMb.cell 0
      have x1 := hMb.cell 1
      have x2 := hMb.cell 2
      go_wp2_with fail
      clear hMb x0 x1 x2
      refine (impl_LgM_any _ _ _ _ os q _ _ _ vs hX.m.s1 hX.m.s2 (by omega) (by omega) (hT.bel hX.m.kk)).mono ?_
      rintro e wn ⟨v1, rfl, o1, hbn⟩
      replace hX := hX.all hbn
      rw [codeM_t (isM_t HIM.out)]
      obtain ⟨R4, d4, rfl, sK⟩ := o1.sl hlk.out
      clear hQ o1 hbn
      have hKl := hlk2.out
      clear hlk hlk2
      have hik : ifM os q vs (lagK os q vs) = lagK os q vs := by unfold ifM; rw [if_pos (isM_t HIM.out)]
      rw [hik] at sK hKl ⊢
      have HLg := hide (show decide (((msk xs : Nat) : Int) ∈ lagK os q vs) = ((ls.length : Int) == 1) by
       have h1 := cd_lag HI.out
       rw [He1.out] at h1
       by_cases h2 : ls.length = 1
       ·rw [decide_eq_true (h1.2 h2), h2]; rfl
       ·rw [decide_eq_false (fun h => h2 (h1.1 h))]
        symm
        rw [beq_eq_false_iff_ne]
        omega)
      have HSr := hide (show ∀ x ∈ xs, 0 ≤ x ∧ x < (16 : Nat) from fun x hx => by
       have := (cd_cs HI.out).2.2.rng x hx
       have := HIM.out.ok.lt
       omega)
      obtain ⟨Ms, hMs⟩ : ∃ k, lagK os q vs = k := ⟨_, rfl⟩
      rw [hMs] at sK hKl HLg ⊢
      clear hMs hik
      go_wp2_with fail
      have HK := hide (fun k => msk_lt (n := 16) (xs := xs.take k) fun x hm => HSr.out x (List.mem_of_mem_take hm))
      go_loopw [34, 35] (fun mk i wr => ∃ k : Nat, k ≤ xs.length ∧ i = .int .i64 k ∧ mk = .int .i64 (msk (xs.take k) : Nat) ∧ GX w M A1 c1 A2 c2 L lc os q vs xs wr ∧ Sl wr wr.heap.size R4 Ms.length d4 Ms) (fun _ i _ => xs.length - (intOf i).toNat)
      case atStart => exact ⟨0, by omega, rfl, rfl, hX, sK⟩
      case round =>
       clear hX sK
       obtain ⟨k, hk, rfl, rfl, hX, sK⟩ := hrel
       by_cases hlt : k < xs.length
       ·obtain ⟨b, off, rfl, hb, hc⟩ := hX.s3.at_ (by omega)
        have cx := hc k hlt
        have hcap := hX.s3.cap
        obtain ⟨r0, r1⟩ := HSr.out _ (gi_mem hlt)
        have hm := HK.out k
        have hS := msk_snoc hlt
        obtain ⟨x, hxe⟩ := Int.eq_ofNat_of_zero_le r0
        rw [hxe] at cx r0 r1 hS
        clear hxe
        obtain ⟨Mk, hMk⟩ : ∃ Mk, msk (xs.take k) = Mk := ⟨_, rfl⟩
        rw [hMk] at hm hS
        rw [Int.toNat_natCast] at hS
        have p1 := pow16k (x := x) (by omega)
        obtain ⟨P, hP⟩ : ∃ P : Nat, 2 ^ x = P := ⟨_, rfl⟩
        rw [hP] at p1 hS
        have e2 : ((2 : Int) ^ x) = (P : Int) := by rw [← hP]; exact (Int.natCast_pow 2 x).symm
        have hs : wrap64 ((2 : Int) ^ x) = (P : Int) := by rw [e2]; exact wrap64_ok _ ⟨by omega, by omega⟩
        have ho : bits .or .i64 (Mk : Int) (P : Int) = ((Mk ||| P : Nat) : Int) := or64 (Nat.lt_of_lt_of_le hm (by decide)) (Nat.lt_of_lt_of_le p1 (by decide))
        have hu : IntKind.u64.wrap (x : Int) = x := wraps63 _ (by omega) (by omega)
        have HS := hide hS
        clear e2 hP hS hc
        rw [hMk]
        clear hMk
        go_wp2_with fail
        go_roundw
        case rel => exact ⟨k + 1, by omega, by go_num, by rw [HS.out], hX, sK⟩
        case measure => simp [intOf] <;> omega
       ·obtain rfl : k = xs.length := by omega
        rw [List.take_length]
        obtain ⟨mm, hmm⟩ : ∃ mm, msk xs = mm := ⟨_, rfl⟩
        rw [hmm] at HLg
        rw [hmm]
        clear hmm
        go_wp2_with fail
        refine (hasInt_any _ _ _ _ _ _ _ sK (by omega)).mono ?_
        rintro e wl ⟨rfl, dm, hdm⟩
        have hbl : Below wr.heap.size wr wl := hdm ▸ below_drewN (Below.refl _ _) _
        clear hdm
        rw [HLg.out]
        replace hX := hX.all hbl
        clear hbl
        go_wp2_with fail
        go_ret
        exact ⟨by simp, hX.m.kk⟩
  ·have hNo := HNo.out h1
   have h1b : (K1 == 0) = false := beq_eq_false_iff_ne.2 h1
   by_cases h3 : K3 = 0
   ·subst h3
    cases Bq with
    | true => simp at hNo
    | false =>
     clear hNo
     go_wp2_with fail
     go_ret
     exact ⟨rfl, hX.m.kk⟩
   ·have h3b : (K3 != 0) = true := by simpa using h3
    clear hNo
    go_wp2_with fail
    go_ret
    exact ⟨rfl, hX.m.kk⟩
end Go.Proofs.YtbpihnpakolooaaGreatDoor
