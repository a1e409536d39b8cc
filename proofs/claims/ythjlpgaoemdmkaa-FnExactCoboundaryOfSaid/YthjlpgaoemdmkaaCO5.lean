
/- The walks of CoboundaryOf of both sides, and of its law. -/
import Derived.Test.YthjlpgaoemdmkaaCO4
namespace Go.Proofs.Ythjlpgaoemdmkaa
open Go Go.RowKit Grp
set_option linter.unusedSimpArgs false
set_option linter.unusedVariables false
set_option maxRecDepth 100000
set_option maxHeartbeats 8000000 in
theorem specCob_c (w : World) (v0 : Value) (os : ints_T) (H0 : ints_R w w.heap.size v0 os) (S0 : ints_Sh os) (M : Int) (wM : i64ok M) (v2 : Value) (f : rows_T) (H2 : rows_R w w.heap.size v2 f) (S2 : rows_Sh f) :
    Calls Try.prog 44 #[v0, .int .i64 M, v2] w (MkEC cocycle_E w (cobR os M f) (cobK os M f)) := by
  obtain ⟨A, n, c, rfl, h⟩ := H0
  obtain ⟨D, k, e, rfl, hf⟩ := H2
  obtain rfl := h.len
  have hs2 := sh2_of S2
  have hn : os.length ≤ 1048576 := S0
  have hl := hf.len
  cases ho : ordHB os with
  | false =>
    have hK : cobK os M f = 1 := by unfold cobK cdO; rw [ho]; rfl
    have hE := hide (And.intro hK (cob_1 (by rw [hK]; decide)))
    have HO := hide (fun W (hW : Below w.heap.size w W) => l06Orders_any W _ _ _ _ _ (h.below hW) hn)
    rw [ho] at HO
    clear ho hK
    go_enter Try.func44, Try.ntmps44
    go_wp2_with fail
    obtain ⟨W, hW⟩ : ∃ W, w.alloc (.cells #[.slice none 0 0, .int .i64 0, .slice none 0 0] 25) = W := ⟨_, rfl⟩
    have hb0 : Below w.heap.size w W := by rw [← hW]; exact (Below.refl _ _).alloc (Nat.le_refl _) _
    have br : Blk W w.heap.size 25 #[.slice none 0 0, .int .i64 0, .slice none 0 0] := by rw [← hW]; exact Blk.new _ _ _
    rw [hW]
    clear hW
    refine ((HO.out _ hb0).mono fun _ _ h => Qt.re h).mono ?_
    rintro e w1 ⟨rfl, hb1⟩
    replace br := br.all hb1
    replace hb0 := hb0.trans (hb1.mono hb0.size)
    clear hb1
    have g0 := br.frozen 0
    have g1 := br.frozen 1
    have g2 := br.frozen 2
    have y0 := br.cell 0
    have y1 := br.cell 1
    have y2 := br.cell 2
    have hb3 := put3_blk (x := .slice none 0 0) (y := .int .i64 0) (z := .slice none 0 0) br
    have q0 := hb3.cell 0
    have q1 := hb3.cell 1
    have q2 := hb3.cell 2
    unfold put3 at q0 q1 q2
    go_wp2_with fail
    refine bodyPost_ret (v := .tuple #[.agg #[.slice none 0 0, .int .i64 0, .slice none 0 0], .int .i64 1]) (by simp [results, Try.results44, go_sem, q0, q1, q2]) rfl ?_
    rw [hE.out.2, hE.out.1]
    exact ⟨_, rfl, cocycle_zero _ _ (fun b hb => hb.2), put3_below hb0 (Nat.le_refl _)⟩
  | true =>
    have hO := ordHB_iff.1 ho
    have hp := prodL_pos hO.2
    have HO := hide (fun W (hW : Below w.heap.size w W) => l06Orders_any W _ _ _ _ _ (h.below hW) hn)
    rw [ho] at HO
    have hsz := fun W (hW : Below w.heap.size w W) => l17Size_any W _ _ _ _ _ (h.below hW) hn hO.2
    by_cases h8 : 8 < prodL os
    · have hK : cobK os M f = 3 := by unfold cobK cdO; rw [ho, if_pos h8]; rfl
      have hE := hide (And.intro hK (cob_1 (by rw [hK]; decide)))
      have hm : min (9 : Int) (prodL os) = 9 := by omega
      rw [hm] at hsz
      have HZ := hide hsz
      clear ho hK hsz h8 hm hp hO
      go_enter Try.func44, Try.ntmps44
      go_wp2_with fail
      obtain ⟨W, hW⟩ : ∃ W, w.alloc (.cells #[.slice none 0 0, .int .i64 0, .slice none 0 0] 25) = W := ⟨_, rfl⟩
      have hb0 : Below w.heap.size w W := by rw [← hW]; exact (Below.refl _ _).alloc (Nat.le_refl _) _
      have br : Blk W w.heap.size 25 #[.slice none 0 0, .int .i64 0, .slice none 0 0] := by rw [← hW]; exact Blk.new _ _ _
      rw [hW]
      clear hW
      refine ((HO.out _ hb0).mono fun _ _ h => Qt.re h).mono ?_
      rintro e w1 ⟨rfl, hb1⟩
      replace br := br.all hb1
      replace hb0 := hb0.trans (hb1.mono hb0.size)
      clear hb1
      go_wp2_with fail
      refine ((HZ.out _ hb0).mono fun _ _ h => Qt.re h).mono ?_
      rintro e w2 ⟨rfl, hb1⟩
      replace br := br.all hb1
      replace hb0 := hb0.trans (hb1.mono hb0.size)
      clear hb1
      have g0 := br.frozen 0
      have g1 := br.frozen 1
      have g2 := br.frozen 2
      have y0 := br.cell 0
      have y1 := br.cell 1
      have y2 := br.cell 2
      have hb3 := put3_blk (x := .slice none 0 0) (y := .int .i64 0) (z := .slice none 0 0) br
      have q0 := hb3.cell 0
      have q1 := hb3.cell 1
      have q2 := hb3.cell 2
      unfold put3 at q0 q1 q2
      go_wp2_with fail
      refine bodyPost_ret (v := .tuple #[.agg #[.slice none 0 0, .int .i64 0, .slice none 0 0], .int .i64 3]) (by simp [results, Try.results44, go_sem, q0, q1, q2]) rfl ?_
      rw [hE.out.2, hE.out.1]
      exact ⟨_, rfl, cocycle_zero _ _ (fun b hb => hb.2), put3_below hb0 (Nat.le_refl _)⟩
    obtain ⟨m, hm⟩ : ∃ m : Nat, (prodL os).toNat = m := ⟨_, rfl⟩
    have hmp : min (9 : Int) (prodL os) = m := by omega
    rw [hmp] at hsz
    have HZ := hide hsz
    have hm1 : 1 ≤ m := by omega
    have hm8 : m ≤ 8 := by omega
    have hpm : (m : Int) = prodL os := by omega
    have hcd : cdO os 8 = 0 := by unfold cdO; rw [ho, if_neg h8]; rfl
    have HPM := hide hpm
    have HM := hide hm
    clear hsz hmp
    by_cases hb : 1 ≤ M ∧ M ≤ 1000
    rotate_left
    · have hi := inB_f hb
      have hK : cobK os M f = 2 := by unfold cobK; rw [if_pos hcd, hi]; rfl
      have hE := hide (And.intro hK (cob_1 (by rw [hK]; decide)))
      clear ho hK hcd hb hpm hm hp h8 hO
      go_enter Try.func44, Try.ntmps44
      go_wp2_with fail
      obtain ⟨W, hW⟩ : ∃ W, w.alloc (.cells #[.slice none 0 0, .int .i64 0, .slice none 0 0] 25) = W := ⟨_, rfl⟩
      have hb0 : Below w.heap.size w W := by rw [← hW]; exact (Below.refl _ _).alloc (Nat.le_refl _) _
      have br : Blk W w.heap.size 25 #[.slice none 0 0, .int .i64 0, .slice none 0 0] := by rw [← hW]; exact Blk.new _ _ _
      rw [hW]
      clear hW
      refine ((HO.out _ hb0).mono fun _ _ h => Qt.re h).mono ?_
      rintro e w1 ⟨rfl, hb1⟩
      replace br := br.all hb1
      replace hb0 := hb0.trans (hb1.mono hb0.size)
      clear hb1
      go_wp2_with fail
      refine ((HZ.out _ hb0).mono fun _ _ h => Qt.re h).mono ?_
      rintro e w2 ⟨rfl, hb1⟩
      replace br := br.all hb1
      replace hb0 := hb0.trans (hb1.mono hb0.size)
      clear hb1
      go_wp2_with fail
      refine ((l01In_v false M 1 1000 _ hi).mono fun _ _ h => Qt.re h).mono ?_
      rintro e w3 ⟨rfl, hb1⟩
      replace br := br.all hb1
      replace hb0 := hb0.trans (hb1.mono hb0.size)
      clear hb1
      have g0 := br.frozen 0
      have g1 := br.frozen 1
      have g2 := br.frozen 2
      have y0 := br.cell 0
      have y1 := br.cell 1
      have y2 := br.cell 2
      have hb3 := put3_blk (x := .slice none 0 0) (y := .int .i64 0) (z := .slice none 0 0) br
      have q0 := hb3.cell 0
      have q1 := hb3.cell 1
      have q2 := hb3.cell 2
      unfold put3 at q0 q1 q2
      go_wp2_with fail
      refine bodyPost_ret (v := .tuple #[.agg #[.slice none 0 0, .int .i64 0, .slice none 0 0], .int .i64 2]) (by simp [results, Try.results44, go_sem, q0, q1, q2]) rfl ?_
      rw [hE.out.2, hE.out.1]
      exact ⟨_, rfl, cocycle_zero _ _ (fun b hb => hb.2), put3_below hb0 (Nat.le_refl _)⟩
    have hi := inB_t hb.1 hb.2
    have HP := hide (fun W (hW : Below w.heap.size w W) => l17Pairing_any W D k e m M f ((hf.below hW).more hW.size) (by omega) hs2.2 hb.1 hb.2 hm1 (by omega))
    cases hpb : prB m M f with
    | false =>
      have hK : cobK os M f = 2 := by unfold cobK; rw [if_pos hcd, if_pos hi, hm, hpb]; rfl
      have hE := hide (And.intro hK (cob_1 (by rw [hK]; decide)))
      rw [hpb] at HP
      clear ho hK hcd hpb hpm hm hp h8 hO
      go_enter Try.func44, Try.ntmps44
      go_wp2_with fail
      obtain ⟨W, hW⟩ : ∃ W, w.alloc (.cells #[.slice none 0 0, .int .i64 0, .slice none 0 0] 25) = W := ⟨_, rfl⟩
      have hb0 : Below w.heap.size w W := by rw [← hW]; exact (Below.refl _ _).alloc (Nat.le_refl _) _
      have br : Blk W w.heap.size 25 #[.slice none 0 0, .int .i64 0, .slice none 0 0] := by rw [← hW]; exact Blk.new _ _ _
      rw [hW]
      clear hW
      refine ((HO.out _ hb0).mono fun _ _ h => Qt.re h).mono ?_
      rintro e w1 ⟨rfl, hb1⟩
      replace br := br.all hb1
      replace hb0 := hb0.trans (hb1.mono hb0.size)
      clear hb1
      go_wp2_with fail
      refine ((HZ.out _ hb0).mono fun _ _ h => Qt.re h).mono ?_
      rintro e w2 ⟨rfl, hb1⟩
      replace br := br.all hb1
      replace hb0 := hb0.trans (hb1.mono hb0.size)
      clear hb1
      go_wp2_with fail
      refine ((l01In_v true M 1 1000 _ hi).mono fun _ _ h => Qt.re h).mono ?_
      rintro e w3 ⟨rfl, hb1⟩
      replace br := br.all hb1
      replace hb0 := hb0.trans (hb1.mono hb0.size)
      clear hb1
      go_wp2_with fail
      refine ((HZ.out _ hb0).mono fun _ _ h => Qt.re h).mono ?_
      rintro e w4 ⟨rfl, hb1⟩
      replace br := br.all hb1
      replace hb0 := hb0.trans (hb1.mono hb0.size)
      clear hb1
      go_wp2_with fail
      refine ((HP.out _ hb0).mono fun _ _ h => Qt.re h).mono ?_
      rintro e w5 ⟨rfl, hb1⟩
      replace br := br.all hb1
      replace hb0 := hb0.trans (hb1.mono hb0.size)
      clear hb1
      have g0 := br.frozen 0
      have g1 := br.frozen 1
      have g2 := br.frozen 2
      have y0 := br.cell 0
      have y1 := br.cell 1
      have y2 := br.cell 2
      have hb3 := put3_blk (x := .slice none 0 0) (y := .int .i64 0) (z := .slice none 0 0) br
      have q0 := hb3.cell 0
      have q1 := hb3.cell 1
      have q2 := hb3.cell 2
      unfold put3 at q0 q1 q2
      go_wp2_with fail
      refine bodyPost_ret (v := .tuple #[.agg #[.slice none 0 0, .int .i64 0, .slice none 0 0], .int .i64 2]) (by simp [results, Try.results44, go_sem, q0, q1, q2]) rfl ?_
      rw [hE.out.2, hE.out.1]
      exact ⟨_, rfl, cocycle_zero _ _ (fun b hb => hb.2), put3_below hb0 (Nat.le_refl _)⟩
    | true =>
      have hPr := prB_iff.1 hpb
      have hK : cobK os M f = 0 := by unfold cobK; rw [if_pos hcd, if_pos hi, hm, hpb]; rfl
      have hR := cob_0 hK
      rw [hm] at hR
      have hE := hide (And.intro hK hR)
      rw [hpb] at HP
      have hkm : k = m := by rw [← hl]; exact hPr.mat.1
      subst hkm
      obtain ⟨b, off, b1, o1, c1, rfl, V⟩ := vw_of hf (by omega) (fun r hr => (hPr.mat.2 r hr).1)
      have hH := okH_of hO hn (by omega)
      have HV := hide V
      have HF := hide hPr.mat
      have HL := hide hl
      clear ho hK hcd hpb hpm hm hp h8 hO hR hl V
      go_enter Try.func44, Try.ntmps44
      go_wp2_with fail
      obtain ⟨W, hW⟩ : ∃ W, w.alloc (.cells #[.slice none 0 0, .int .i64 0, .slice none 0 0] 25) = W := ⟨_, rfl⟩
      have hb0 : Below w.heap.size w W := by rw [← hW]; exact (Below.refl _ _).alloc (Nat.le_refl _) _
      have br : Blk W w.heap.size 25 #[.slice none 0 0, .int .i64 0, .slice none 0 0] := by rw [← hW]; exact Blk.new _ _ _
      rw [hW]
      clear hW
      refine ((HO.out _ hb0).mono fun _ _ h => Qt.re h).mono ?_
      rintro e w1 ⟨rfl, hb1⟩
      replace br := br.all hb1
      replace hb0 := hb0.trans (hb1.mono hb0.size)
      clear hb1
      go_wp2_with fail
      refine ((HZ.out _ hb0).mono fun _ _ h => Qt.re h).mono ?_
      rintro e w2 ⟨rfl, hb1⟩
      replace br := br.all hb1
      replace hb0 := hb0.trans (hb1.mono hb0.size)
      clear hb1
      go_wp2_with fail
      refine ((l01In_v true M 1 1000 _ hi).mono fun _ _ h => Qt.re h).mono ?_
      rintro e w3 ⟨rfl, hb1⟩
      replace br := br.all hb1
      replace hb0 := hb0.trans (hb1.mono hb0.size)
      clear hb1
      go_wp2_with fail
      refine ((HZ.out _ hb0).mono fun _ _ h => Qt.re h).mono ?_
      rintro e w4 ⟨rfl, hb1⟩
      replace br := br.all hb1
      replace hb0 := hb0.trans (hb1.mono hb0.size)
      clear hb1
      go_wp2_with fail
      refine ((HP.out _ hb0).mono fun _ _ h => Qt.re h).mono ?_
      rintro e w5 ⟨rfl, hb1⟩
      replace br := br.all hb1
      replace hb0 := hb0.trans (hb1.mono hb0.size)
      clear hb1
      go_wp2_with fail
      refine (l17Coboundary_any _ A os.length c os M b off k e b1 o1 c1 f ((h.below hb0).more hb0.size) hn (HV.out.keep hb0 hb0.size) hH HPM.out hm8 hb.1 hb.2 HF.out).mono ?_
      rintro e w6 ⟨v, rfl, he, hb2⟩
      obtain ⟨A1, n1, c1', z1, D1, m1', e1, rfl, hz1⟩ := cocycle_form (cocycle_rd he)
      have hrl := br.lt
      replace br := br.all hb2
      replace hb0 := hb0.trans (hb2.mono hb0.size)
      clear hz1 hb2
      have g0 := br.frozen 0
      have g1 := br.frozen 1
      have g2 := br.frozen 2
      have y0 := br.cell 0
      have y1 := br.cell 1
      have y2 := br.cell 2
      have hb3 := put3_blk (x := .slice A1 n1 c1') (y := .int .i64 z1) (z := .slice D1 m1' e1) br
      have q0 := hb3.cell 0
      have q1 := hb3.cell 1
      have q2 := hb3.cell 2
      unfold put3 at q0 q1 q2
      go_wp2_with fail
      refine bodyPost_ret (v := .tuple #[.agg #[.slice A1 n1 c1', .int .i64 z1, .slice D1 m1' e1], .int .i64 0]) (by simp [results, Try.results44, go_sem, q0, q1, q2]) rfl ?_
      rw [hE.out.2, hE.out.1]
      exact ⟨_, rfl, cocycle_put he hb0 hrl (Nat.le_refl _), put3_below hb0 (Nat.le_refl _)⟩
set_option maxHeartbeats 8000000 in
theorem implCob_c (w : World) (v0 : Value) (os : ints_T) (H0 : ints_R w w.heap.size v0 os) (S0 : ints_Sh os) (M : Int) (wM : i64ok M) (v2 : Value) (f : rows_T) (H2 : rows_R w w.heap.size v2 f) (S2 : rows_Sh f) :
    Calls Try.prog 46 #[v0, .int .i64 M, v2] w (MkEC cocycle_E w (cobR os M f) (cobK os M f)) := by
  obtain ⟨A, n, c, rfl, h⟩ := H0
  obtain ⟨D, k, e, rfl, hf⟩ := H2
  obtain rfl := h.len
  have hs2 := sh2_of S2
  have hn : os.length ≤ 1048576 := S0
  have hl := hf.len
  have HC := hide (fun W (hW : Below w.heap.size w W) => pairingCode_any W A os.length c os M D k e f ((h.below hW).more hW.size) hn ((hf.below hW).more hW.size) (by omega) hs2.2)
  by_cases hK : cobK os M f = 0
  rotate_left
  · have hE := hide (cob_1 hK)
    obtain ⟨q, hq⟩ : ∃ q, cobK os M f = q := ⟨_, rfl⟩
    rw [hq] at HC hK ⊢
    have t : (q != 0) = true := by simp [hK]
    clear hK hq
    go_enter Try.func46, Try.ntmps46
    go_wp2_with fail
    obtain ⟨W, hW⟩ : ∃ W, w.alloc (.cells #[.slice none 0 0, .int .i64 0, .slice none 0 0] 25) = W := ⟨_, rfl⟩
    have hb0 : Below w.heap.size w W := by rw [← hW]; exact (Below.refl _ _).alloc (Nat.le_refl _) _
    have br : Blk W w.heap.size 25 #[.slice none 0 0, .int .i64 0, .slice none 0 0] := by rw [← hW]; exact Blk.new _ _ _
    rw [hW]
    clear hW
    refine (HC.out _ hb0).mono ?_
    rintro en w1 ⟨rfl, hb1⟩
    replace br := br.all hb1
    replace hb0 := hb0.trans (hb1.mono hb0.size)
    have g0 := br.frozen 0
    have g1 := br.frozen 1
    have g2 := br.frozen 2
    have y0 := br.cell 0
    have y1 := br.cell 1
    have y2 := br.cell 2
    have hb3 := put3_blk (x := .slice none 0 0) (y := .int .i64 0) (z := .slice none 0 0) br
    have q0 := hb3.cell 0
    have q1 := hb3.cell 1
    have q2 := hb3.cell 2
    unfold put3 at q0 q1 q2
    go_wp2_with fail
    refine bodyPost_ret (v := .tuple #[.agg #[.slice none 0 0, .int .i64 0, .slice none 0 0], .int .i64 q]) (by simp [results, Try.results46, go_sem, q0, q1, q2]) rfl ?_
    rw [hE.out]
    exact ⟨_, rfl, cocycle_zero _ _ (fun b hb => hb.2), put3_below hb0 (Nat.le_refl _)⟩
  obtain ⟨hO, hp8, m1, m2, hPr⟩ := cobK_0 hK
  have hp := prodL_pos hO.2
  obtain ⟨m, hm⟩ : ∃ m : Nat, (prodL os).toNat = m := ⟨_, rfl⟩
  have hR := cob_0 hK
  rw [hm] at hPr hR
  have hE := hide (And.intro hK hR)
  rw [hK] at HC
  have hkm : k = m := by rw [← hl]; exact hPr.mat.1
  subst hkm
  obtain ⟨b, off, b1, o1, c1, rfl, V⟩ := vw_of hf (by omega) (fun r hr => (hPr.mat.2 r hr).1)
  have hH := okH_of hO hn (by omega)
  have HPM := hide (show (k : Int) = prodL os by omega)
  have hk8 : k ≤ 8 := by omega
  have HV := hide V
  have HF := hide hPr.mat
  have HL := hide hl
  clear hK hp hm hp8 hO hR hl V
  go_enter Try.func46, Try.ntmps46
  go_wp2_with fail
  obtain ⟨W, hW⟩ : ∃ W, w.alloc (.cells #[.slice none 0 0, .int .i64 0, .slice none 0 0] 25) = W := ⟨_, rfl⟩
  have hb0 : Below w.heap.size w W := by rw [← hW]; exact (Below.refl _ _).alloc (Nat.le_refl _) _
  have br : Blk W w.heap.size 25 #[.slice none 0 0, .int .i64 0, .slice none 0 0] := by rw [← hW]; exact Blk.new _ _ _
  rw [hW]
  clear hW
  refine (HC.out _ hb0).mono ?_
  rintro en w1 ⟨rfl, hb1⟩
  replace br := br.all hb1
  replace hb0 := hb0.trans (hb1.mono hb0.size)
  go_wp2_with fail
  refine (coboundary_any _ A os.length c os M b off k e b1 o1 c1 f ((h.below hb0).more hb0.size) hn (HV.out.keep hb0 hb0.size) hH HPM.out hk8 m1 m2 HF.out).mono ?_
  rintro e w6 ⟨v, rfl, he, hb2⟩
  obtain ⟨A1, n1, c1', z1, D1, m1', e1, rfl, hz1⟩ := cocycle_form (cocycle_rd he)
  have hrl := br.lt
  replace br := br.all hb2
  replace hb0 := hb0.trans (hb2.mono hb0.size)
  clear hz1 hb2
  have g0 := br.frozen 0
  have g1 := br.frozen 1
  have g2 := br.frozen 2
  have y0 := br.cell 0
  have y1 := br.cell 1
  have y2 := br.cell 2
  have hb3 := put3_blk (x := .slice A1 n1 c1') (y := .int .i64 z1) (z := .slice D1 m1' e1) br
  have q0 := hb3.cell 0
  have q1 := hb3.cell 1
  have q2 := hb3.cell 2
  unfold put3 at q0 q1 q2
  go_wp2_with fail
  refine bodyPost_ret (v := .tuple #[.agg #[.slice A1 n1 c1', .int .i64 z1, .slice D1 m1' e1], .int .i64 0]) (by simp [results, Try.results46, go_sem, q0, q1, q2]) rfl ?_
  rw [hE.out.2, hE.out.1]
  exact ⟨_, rfl, cocycle_put he hb0 hrl (Nat.le_refl _), put3_below hb0 (Nat.le_refl _)⟩
end Go.Proofs.Ythjlpgaoemdmkaa
