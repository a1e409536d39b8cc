
/- The walk of impl.MetricFrom. -/
import Derived.Test.YtnoemhmmaicakaaMF1
import Derived.Test.YtnoemhmmaicakaaTU
import Derived.Test.YtnoemhmmaicakaaBa
import Derived.WalkLawsBesides
namespace Go.Proofs.Ytnoemhmmaicakaa
open Go Go.RowKit Grp
set_option linter.unusedSimpArgs false
set_option linter.unusedVariables false

set_option maxRecDepth 100000 in
set_option maxHeartbeats 8000000 in
theorem impl_Mf_any (w : World) (A : Option Addr) (n c : Nat) (os : List Int) (D : Int) (A' : Option Addr) (n' c' : Nat) (sq : List Int) (A'' : Option Addr) (n'' c'' : Nat) (pr : List Int)
    (h : Sl w w.heap.size A n c os) (h' : Sl w w.heap.size A' n' c' sq) (h'' : Sl w w.heap.size A'' n'' c'' pr) (hn : n ≤ 1048576) (hn' : n' ≤ 1048576) (hn'' : n'' ≤ 1048576) :
    Calls Try.prog 14 #[.slice A n c, .int .i64 D, .slice A' n' c', .slice A'' n'' c''] w (MkM w (gF (mfC os D sq pr) os) (gFI (mfC os D sq pr) D) (gF (mfC os D sq pr) (valsF os D sq pr)) (mfC os D sq pr)) := by
  obtain rfl := h.len
  obtain rfl := h'.len
  obtain rfl := h''.len
  cases hg : okG os with
  | false =>
    have hC := hide (show mfC os D sq pr = 2 by unfold mfC; rw [if_neg (by simp [frm, hg])])
    rw [hC.out, gF_n (by omega), gF_n (by omega), gFI_n (by omega)]
    go_enter Try.func14, Try.ntmps14
    go_wp2_with fail
    obtain ⟨W, hW⟩ : ∃ W, w.alloc (.cells #[.slice none 0 0, .int .i64 0, .slice none 0 0] 26) = W := ⟨_, rfl⟩
    have hbW : Below w.heap.size w W := by rw [← hW]; exact (by repeat (first | assumption | exact Below.refl _ _ | apply below_drewN | apply Below.drew | apply Below.alloc | apply Below.setCell | omega | (focus (simp; done)) | (focus (simp; omega))))
    have hszW : w.heap.size < W.heap.size := by rw [← hW]; simp
    have bR : Blk W w.heap.size 26 #[.slice none 0 0, .int .i64 0, .slice none 0 0] := by rw [← hW]; exact Blk.new _ _ _
    rw [hW]
    clear hW
    have hsl : ∀ {wd}, Below W.heap.size W wd → Sl wd wd.heap.size A os.length c os := fun q => ((h.below hbW).below (q.mono (Nat.le_of_lt hszW))).more (by have := q.size; omega)
    have hsl' : ∀ {wd}, Below W.heap.size W wd → Sl wd wd.heap.size A' sq.length c' sq := fun q => ((h'.below hbW).below (q.mono (Nat.le_of_lt hszW))).more (by have := q.size; omega)
    have hsl'' : ∀ {wd}, Below W.heap.size W wd → Sl wd wd.heap.size A'' pr.length c'' pr := fun q => ((h''.below hbW).below (q.mono (Nat.le_of_lt hszW))).more (by have := q.size; omega)
    have kk : Below W.heap.size W W := Below.refl _ _
    refine (isGroup_v false _ _ _ _ _ (hsl kk) hn hg).mono ?_
    rintro e w2 ⟨rfl, hb2⟩
    replace kk := kk.trans (hb2.mono kk.size)
    clear hb2
    have hres := bR.all kk
    have r0 := hres.cell 0
    have r1 := hres.cell 1
    have r2 := hres.cell 2
    have f0 := hres.frozen 0
    have f1 := hres.frozen 1
    have f2 := hres.frozen 2
    go_wp2
    have hb3 := put3_blk (x := .slice none 0 0) (y := .int .i64 0) (z := .slice none 0 0) hres
    have q0 := hb3.cell 0
    have q1 := hb3.cell 1
    have q2 := hb3.cell 2
    unfold put3 at q0 q1 q2
    refine bodyPost_ret (v := .tuple #[.agg #[.slice none 0 0, .int .i64 0, .slice none 0 0], .int .i64 2]) (by simp [results, Try.results14, go_sem, q0, q1, q2]) rfl ?_
    exact mkM_of_no ⟨rfl, put3_below (hbW.trans (kk.mono (Nat.le_of_lt hszW))) (Nat.le_refl _)⟩
  | true =>
    cases ho : ordB D with
    | false =>
      have hC := hide (show mfC os D sq pr = 2 by unfold mfC; rw [if_neg (by simp [frm, ho])])
      rw [hC.out, gF_n (by omega), gF_n (by omega), gFI_n (by omega)]
      go_enter Try.func14, Try.ntmps14
      go_wp2_with fail
      obtain ⟨W, hW⟩ : ∃ W, w.alloc (.cells #[.slice none 0 0, .int .i64 0, .slice none 0 0] 26) = W := ⟨_, rfl⟩
      have hbW : Below w.heap.size w W := by rw [← hW]; exact (by repeat (first | assumption | exact Below.refl _ _ | apply below_drewN | apply Below.drew | apply Below.alloc | apply Below.setCell | omega | (focus (simp; done)) | (focus (simp; omega))))
      have hszW : w.heap.size < W.heap.size := by rw [← hW]; simp
      have bR : Blk W w.heap.size 26 #[.slice none 0 0, .int .i64 0, .slice none 0 0] := by rw [← hW]; exact Blk.new _ _ _
      rw [hW]
      clear hW
      have hsl : ∀ {wd}, Below W.heap.size W wd → Sl wd wd.heap.size A os.length c os := fun q => ((h.below hbW).below (q.mono (Nat.le_of_lt hszW))).more (by have := q.size; omega)
      have hsl' : ∀ {wd}, Below W.heap.size W wd → Sl wd wd.heap.size A' sq.length c' sq := fun q => ((h'.below hbW).below (q.mono (Nat.le_of_lt hszW))).more (by have := q.size; omega)
      have hsl'' : ∀ {wd}, Below W.heap.size W wd → Sl wd wd.heap.size A'' pr.length c'' pr := fun q => ((h''.below hbW).below (q.mono (Nat.le_of_lt hszW))).more (by have := q.size; omega)
      have kk : Below W.heap.size W W := Below.refl _ _
      refine (isGroup_v true _ _ _ _ _ (hsl kk) hn hg).mono ?_
      rintro e w2 ⟨rfl, hb2⟩
      replace kk := kk.trans (hb2.mono kk.size)
      clear hb2
      go_wp2_with fail
      refine ((isOrder_v false _ _ ho).mono fun _ _ h => Qt.re h).mono ?_
      rintro e w2 ⟨rfl, hb2⟩
      replace kk := kk.trans (hb2.mono kk.size)
      clear hb2
      have hres := bR.all kk
      have r0 := hres.cell 0
      have r1 := hres.cell 1
      have r2 := hres.cell 2
      have f0 := hres.frozen 0
      have f1 := hres.frozen 1
      have f2 := hres.frozen 2
      go_wp2
      have hb3 := put3_blk (x := .slice none 0 0) (y := .int .i64 0) (z := .slice none 0 0) hres
      have q0 := hb3.cell 0
      have q1 := hb3.cell 1
      have q2 := hb3.cell 2
      unfold put3 at q0 q1 q2
      refine bodyPost_ret (v := .tuple #[.agg #[.slice none 0 0, .int .i64 0, .slice none 0 0], .int .i64 2]) (by simp [results, Try.results14, go_sem, q0, q1, q2]) rfl ?_
      exact mkM_of_no ⟨rfl, put3_below (hbW.trans (kk.mono (Nat.le_of_lt hszW))) (Nat.le_refl _)⟩
    | true =>
      have hG := okG_iff.1 hg
      have h4 := hG.l4
      obtain ⟨d1, d2⟩ := ordB_le ho
      obtain ⟨z1, z2, z3⟩ := tri_eq _ h4
      have s1 : IntKind.i64.wrap ((os.length : Int) - 1) = (os.length : Int) - 1 := wrap_in (by omega) (by omega)
      obtain ⟨Q, hQ⟩ : ∃ Q, (os.length : Int) * ((os.length : Int) - 1) = Q := ⟨_, rfl⟩
      rw [hQ] at z1 z2 z3
      have s2 : IntKind.i64.wrap ((os.length : Int) * ((os.length : Int) - 1)) = Q := by rw [hQ]; exact wrap_in (by omega) (by omega)
      obtain ⟨T, hT⟩ : ∃ T, tri os.length = T := ⟨_, rfl⟩
      have z5 := tri_le _ h4
      rw [hT] at z3 z5
      have z4 : IntKind.i64.wrap (T : Int) = T := wrap_in (by omega) (by omega)
      have HW := hide (show _ ∧ _ ∧ _ ∧ _ ∧ wrap64 (T : Int) = T from ⟨s1, s2, z3, z4, by rw [← wrap_eq]; exact z4⟩)
      have hTT := hide hT
      clear hQ hT s1 s2 z3 z4
      by_cases hq : sq.length = os.length
      case neg =>
        have u1 : ((sq.length : Int) != (os.length : Int)) = true := by rw [bne_iff_ne]; omega
        have hC := hide (show mfC os D sq pr = 2 by unfold mfC; rw [if_neg (by simp [frm, hq])])
        rw [hC.out, gF_n (by omega), gF_n (by omega), gFI_n (by omega)]
        clear hq
        go_enter Try.func14, Try.ntmps14
        go_wp2_with fail
        obtain ⟨W, hW⟩ : ∃ W, w.alloc (.cells #[.slice none 0 0, .int .i64 0, .slice none 0 0] 26) = W := ⟨_, rfl⟩
        have hbW : Below w.heap.size w W := by rw [← hW]; exact (by repeat (first | assumption | exact Below.refl _ _ | apply below_drewN | apply Below.drew | apply Below.alloc | apply Below.setCell | omega | (focus (simp; done)) | (focus (simp; omega))))
        have hszW : w.heap.size < W.heap.size := by rw [← hW]; simp
        have bR : Blk W w.heap.size 26 #[.slice none 0 0, .int .i64 0, .slice none 0 0] := by rw [← hW]; exact Blk.new _ _ _
        rw [hW]
        clear hW
        have hsl : ∀ {wd}, Below W.heap.size W wd → Sl wd wd.heap.size A os.length c os := fun q => ((h.below hbW).below (q.mono (Nat.le_of_lt hszW))).more (by have := q.size; omega)
        have hsl' : ∀ {wd}, Below W.heap.size W wd → Sl wd wd.heap.size A' sq.length c' sq := fun q => ((h'.below hbW).below (q.mono (Nat.le_of_lt hszW))).more (by have := q.size; omega)
        have hsl'' : ∀ {wd}, Below W.heap.size W wd → Sl wd wd.heap.size A'' pr.length c'' pr := fun q => ((h''.below hbW).below (q.mono (Nat.le_of_lt hszW))).more (by have := q.size; omega)
        have kk : Below W.heap.size W W := Below.refl _ _
        refine (isGroup_v true _ _ _ _ _ (hsl kk) hn hg).mono ?_
        rintro e w2 ⟨rfl, hb2⟩
        replace kk := kk.trans (hb2.mono kk.size)
        clear hb2
        go_wp2_with fail
        obtain ⟨s1, s2, s3, s4, s5⟩ := HW.out
        refine ((isOrder_v true _ _ ho).mono fun _ _ h => Qt.re h).mono ?_
        rintro e w2 ⟨rfl, hb2⟩
        replace kk := kk.trans (hb2.mono kk.size)
        clear hb2
        have hres := bR.all kk
        have r0 := hres.cell 0
        have r1 := hres.cell 1
        have r2 := hres.cell 2
        have f0 := hres.frozen 0
        have f1 := hres.frozen 1
        have f2 := hres.frozen 2
        go_wp2
        have hb3 := put3_blk (x := .slice none 0 0) (y := .int .i64 0) (z := .slice none 0 0) hres
        have q0 := hb3.cell 0
        have q1 := hb3.cell 1
        have q2 := hb3.cell 2
        unfold put3 at q0 q1 q2
        refine bodyPost_ret (v := .tuple #[.agg #[.slice none 0 0, .int .i64 0, .slice none 0 0], .int .i64 2]) (by simp [results, Try.results14, go_sem, q0, q1, q2]) rfl ?_
        exact mkM_of_no ⟨rfl, put3_below (hbW.trans (kk.mono (Nat.le_of_lt hszW))) (Nat.le_refl _)⟩
      have u1 : ((sq.length : Int) != (os.length : Int)) = false := by rw [bne_eq_false_iff_eq]; omega
      have HQ := hide hq
      by_cases hp : pr.length = T
      case neg =>
        have u2 : ((pr.length : Int) != (T : Int)) = true := by rw [bne_iff_ne]; omega
        have hpp : ¬ pr.length = tri os.length := by rw [hTT.out]; exact hp
        have hC := hide (show mfC os D sq pr = 2 by unfold mfC; rw [if_neg (by simp [frm, hpp])])
        rw [hC.out, gF_n (by omega), gF_n (by omega), gFI_n (by omega)]
        clear hpp
        clear hq
        go_enter Try.func14, Try.ntmps14
        go_wp2_with fail
        obtain ⟨W, hW⟩ : ∃ W, w.alloc (.cells #[.slice none 0 0, .int .i64 0, .slice none 0 0] 26) = W := ⟨_, rfl⟩
        have hbW : Below w.heap.size w W := by rw [← hW]; exact (by repeat (first | assumption | exact Below.refl _ _ | apply below_drewN | apply Below.drew | apply Below.alloc | apply Below.setCell | omega | (focus (simp; done)) | (focus (simp; omega))))
        have hszW : w.heap.size < W.heap.size := by rw [← hW]; simp
        have bR : Blk W w.heap.size 26 #[.slice none 0 0, .int .i64 0, .slice none 0 0] := by rw [← hW]; exact Blk.new _ _ _
        rw [hW]
        clear hW
        have hsl : ∀ {wd}, Below W.heap.size W wd → Sl wd wd.heap.size A os.length c os := fun q => ((h.below hbW).below (q.mono (Nat.le_of_lt hszW))).more (by have := q.size; omega)
        have hsl' : ∀ {wd}, Below W.heap.size W wd → Sl wd wd.heap.size A' sq.length c' sq := fun q => ((h'.below hbW).below (q.mono (Nat.le_of_lt hszW))).more (by have := q.size; omega)
        have hsl'' : ∀ {wd}, Below W.heap.size W wd → Sl wd wd.heap.size A'' pr.length c'' pr := fun q => ((h''.below hbW).below (q.mono (Nat.le_of_lt hszW))).more (by have := q.size; omega)
        have kk : Below W.heap.size W W := Below.refl _ _
        refine (isGroup_v true _ _ _ _ _ (hsl kk) hn hg).mono ?_
        rintro e w2 ⟨rfl, hb2⟩
        replace kk := kk.trans (hb2.mono kk.size)
        clear hb2
        go_wp2_with fail
        obtain ⟨s1, s2, s3, s4, s5⟩ := HW.out
        refine ((isOrder_v true _ _ ho).mono fun _ _ h => Qt.re h).mono ?_
        rintro e w2 ⟨rfl, hb2⟩
        replace kk := kk.trans (hb2.mono kk.size)
        clear hb2
        have hres := bR.all kk
        have r0 := hres.cell 0
        have r1 := hres.cell 1
        have r2 := hres.cell 2
        have f0 := hres.frozen 0
        have f1 := hres.frozen 1
        have f2 := hres.frozen 2
        go_wp2
        have hb3 := put3_blk (x := .slice none 0 0) (y := .int .i64 0) (z := .slice none 0 0) hres
        have q0 := hb3.cell 0
        have q1 := hb3.cell 1
        have q2 := hb3.cell 2
        unfold put3 at q0 q1 q2
        refine bodyPost_ret (v := .tuple #[.agg #[.slice none 0 0, .int .i64 0, .slice none 0 0], .int .i64 2]) (by simp [results, Try.results14, go_sem, q0, q1, q2]) rfl ?_
        exact mkM_of_no ⟨rfl, put3_below (hbW.trans (kk.mono (Nat.le_of_lt hszW))) (Nat.le_refl _)⟩
      have u2 : ((pr.length : Int) != (T : Int)) = false := by rw [bne_eq_false_iff_eq]; omega
      have HP := hide (show pr.length = tri os.length by rw [hTT.out]; exact hp)
      clear hq hp
      have v1 : IntKind.i64.wrap (D - 1) = D - 1 := wrap_in (by omega) (by omega)
      cases h5 : allIn 0 (D - 1) sq with
      | false =>
        have hC := hide (show mfC os D sq pr = 2 by unfold mfC; rw [if_neg (by simp [frm, h5])])
        rw [hC.out, gF_n (by omega), gF_n (by omega), gFI_n (by omega)]
        go_enter Try.func14, Try.ntmps14
        go_wp2_with fail
        obtain ⟨W, hW⟩ : ∃ W, w.alloc (.cells #[.slice none 0 0, .int .i64 0, .slice none 0 0] 26) = W := ⟨_, rfl⟩
        have hbW : Below w.heap.size w W := by rw [← hW]; exact (by repeat (first | assumption | exact Below.refl _ _ | apply below_drewN | apply Below.drew | apply Below.alloc | apply Below.setCell | omega | (focus (simp; done)) | (focus (simp; omega))))
        have hszW : w.heap.size < W.heap.size := by rw [← hW]; simp
        have bR : Blk W w.heap.size 26 #[.slice none 0 0, .int .i64 0, .slice none 0 0] := by rw [← hW]; exact Blk.new _ _ _
        rw [hW]
        clear hW
        have hsl : ∀ {wd}, Below W.heap.size W wd → Sl wd wd.heap.size A os.length c os := fun q => ((h.below hbW).below (q.mono (Nat.le_of_lt hszW))).more (by have := q.size; omega)
        have hsl' : ∀ {wd}, Below W.heap.size W wd → Sl wd wd.heap.size A' sq.length c' sq := fun q => ((h'.below hbW).below (q.mono (Nat.le_of_lt hszW))).more (by have := q.size; omega)
        have hsl'' : ∀ {wd}, Below W.heap.size W wd → Sl wd wd.heap.size A'' pr.length c'' pr := fun q => ((h''.below hbW).below (q.mono (Nat.le_of_lt hszW))).more (by have := q.size; omega)
        have kk : Below W.heap.size W W := Below.refl _ _
        refine (isGroup_v true _ _ _ _ _ (hsl kk) hn hg).mono ?_
        rintro e w2 ⟨rfl, hb2⟩
        replace kk := kk.trans (hb2.mono kk.size)
        clear hb2
        go_wp2_with fail
        obtain ⟨s1, s2, s3, s4, s5⟩ := HW.out
        refine ((isOrder_v true _ _ ho).mono fun _ _ h => Qt.re h).mono ?_
        rintro e w2 ⟨rfl, hb2⟩
        replace kk := kk.trans (hb2.mono kk.size)
        clear hb2
        go_wp2_with fail
        refine (allWithin_v false _ _ _ _ _ _ _ (hsl' kk) hn' h5).mono ?_
        rintro e w2 ⟨rfl, hb2⟩
        replace kk := kk.trans (hb2.mono kk.size)
        clear hb2
        have hres := bR.all kk
        have r0 := hres.cell 0
        have r1 := hres.cell 1
        have r2 := hres.cell 2
        have f0 := hres.frozen 0
        have f1 := hres.frozen 1
        have f2 := hres.frozen 2
        go_wp2
        have hb3 := put3_blk (x := .slice none 0 0) (y := .int .i64 0) (z := .slice none 0 0) hres
        have q0 := hb3.cell 0
        have q1 := hb3.cell 1
        have q2 := hb3.cell 2
        unfold put3 at q0 q1 q2
        refine bodyPost_ret (v := .tuple #[.agg #[.slice none 0 0, .int .i64 0, .slice none 0 0], .int .i64 2]) (by simp [results, Try.results14, go_sem, q0, q1, q2]) rfl ?_
        exact mkM_of_no ⟨rfl, put3_below (hbW.trans (kk.mono (Nat.le_of_lt hszW))) (Nat.le_refl _)⟩
      | true =>
        cases h6 : allIn 0 (D - 1) pr with
        | false =>
          have hC := hide (show mfC os D sq pr = 2 by unfold mfC; rw [if_neg (by simp [frm, h6])])
          rw [hC.out, gF_n (by omega), gF_n (by omega), gFI_n (by omega)]
          go_enter Try.func14, Try.ntmps14
          go_wp2_with fail
          obtain ⟨W, hW⟩ : ∃ W, w.alloc (.cells #[.slice none 0 0, .int .i64 0, .slice none 0 0] 26) = W := ⟨_, rfl⟩
          have hbW : Below w.heap.size w W := by rw [← hW]; exact (by repeat (first | assumption | exact Below.refl _ _ | apply below_drewN | apply Below.drew | apply Below.alloc | apply Below.setCell | omega | (focus (simp; done)) | (focus (simp; omega))))
          have hszW : w.heap.size < W.heap.size := by rw [← hW]; simp
          have bR : Blk W w.heap.size 26 #[.slice none 0 0, .int .i64 0, .slice none 0 0] := by rw [← hW]; exact Blk.new _ _ _
          rw [hW]
          clear hW
          have hsl : ∀ {wd}, Below W.heap.size W wd → Sl wd wd.heap.size A os.length c os := fun q => ((h.below hbW).below (q.mono (Nat.le_of_lt hszW))).more (by have := q.size; omega)
          have hsl' : ∀ {wd}, Below W.heap.size W wd → Sl wd wd.heap.size A' sq.length c' sq := fun q => ((h'.below hbW).below (q.mono (Nat.le_of_lt hszW))).more (by have := q.size; omega)
          have hsl'' : ∀ {wd}, Below W.heap.size W wd → Sl wd wd.heap.size A'' pr.length c'' pr := fun q => ((h''.below hbW).below (q.mono (Nat.le_of_lt hszW))).more (by have := q.size; omega)
          have kk : Below W.heap.size W W := Below.refl _ _
          refine (isGroup_v true _ _ _ _ _ (hsl kk) hn hg).mono ?_
          rintro e w2 ⟨rfl, hb2⟩
          replace kk := kk.trans (hb2.mono kk.size)
          clear hb2
          go_wp2_with fail
          obtain ⟨s1, s2, s3, s4, s5⟩ := HW.out
          refine ((isOrder_v true _ _ ho).mono fun _ _ h => Qt.re h).mono ?_
          rintro e w2 ⟨rfl, hb2⟩
          replace kk := kk.trans (hb2.mono kk.size)
          clear hb2
          go_wp2_with fail
          refine (allWithin_v true _ _ _ _ _ _ _ (hsl' kk) hn' h5).mono ?_
          rintro e w2 ⟨rfl, hb2⟩
          replace kk := kk.trans (hb2.mono kk.size)
          clear hb2
          go_wp2_with fail
          refine (allWithin_v false _ _ _ _ _ _ _ (hsl'' kk) hn'' h6).mono ?_
          rintro e w2 ⟨rfl, hb2⟩
          replace kk := kk.trans (hb2.mono kk.size)
          clear hb2
          have hres := bR.all kk
          have r0 := hres.cell 0
          have r1 := hres.cell 1
          have r2 := hres.cell 2
          have f0 := hres.frozen 0
          have f1 := hres.frozen 1
          have f2 := hres.frozen 2
          go_wp2
          have hb3 := put3_blk (x := .slice none 0 0) (y := .int .i64 0) (z := .slice none 0 0) hres
          have q0 := hb3.cell 0
          have q1 := hb3.cell 1
          have q2 := hb3.cell 2
          unfold put3 at q0 q1 q2
          refine bodyPost_ret (v := .tuple #[.agg #[.slice none 0 0, .int .i64 0, .slice none 0 0], .int .i64 2]) (by simp [results, Try.results14, go_sem, q0, q1, q2]) rfl ?_
          exact mkM_of_no ⟨rfl, put3_below (hbW.trans (kk.mono (Nat.le_of_lt hszW))) (Nat.le_refl _)⟩
        | true =>
          go_enter Try.func14, Try.ntmps14
          go_wp2_with fail
          obtain ⟨W, hW⟩ : ∃ W, w.alloc (.cells #[.slice none 0 0, .int .i64 0, .slice none 0 0] 26) = W := ⟨_, rfl⟩
          have hbW : Below w.heap.size w W := by rw [← hW]; exact (by repeat (first | assumption | exact Below.refl _ _ | apply below_drewN | apply Below.drew | apply Below.alloc | apply Below.setCell | omega | (focus (simp; done)) | (focus (simp; omega))))
          have hszW : w.heap.size < W.heap.size := by rw [← hW]; simp
          have bR : Blk W w.heap.size 26 #[.slice none 0 0, .int .i64 0, .slice none 0 0] := by rw [← hW]; exact Blk.new _ _ _
          rw [hW]
          clear hW
          have hsl : ∀ {wd}, Below W.heap.size W wd → Sl wd wd.heap.size A os.length c os := fun q => ((h.below hbW).below (q.mono (Nat.le_of_lt hszW))).more (by have := q.size; omega)
          have hsl' : ∀ {wd}, Below W.heap.size W wd → Sl wd wd.heap.size A' sq.length c' sq := fun q => ((h'.below hbW).below (q.mono (Nat.le_of_lt hszW))).more (by have := q.size; omega)
          have hsl'' : ∀ {wd}, Below W.heap.size W wd → Sl wd wd.heap.size A'' pr.length c'' pr := fun q => ((h''.below hbW).below (q.mono (Nat.le_of_lt hszW))).more (by have := q.size; omega)
          have kk : Below W.heap.size W W := Below.refl _ _
          refine (isGroup_v true _ _ _ _ _ (hsl kk) hn hg).mono ?_
          rintro e w2 ⟨rfl, hb2⟩
          replace kk := kk.trans (hb2.mono kk.size)
          clear hb2
          go_wp2_with fail
          obtain ⟨s1, s2, s3, s4, s5⟩ := HW.out
          refine ((isOrder_v true _ _ ho).mono fun _ _ h => Qt.re h).mono ?_
          rintro e w2 ⟨rfl, hb2⟩
          replace kk := kk.trans (hb2.mono kk.size)
          clear hb2
          go_wp2_with fail
          clear s1 s2 s3 s4 s5 u1 u2
          refine (allWithin_v true _ _ _ _ _ _ _ (hsl' kk) hn' h5).mono ?_
          rintro e w2 ⟨rfl, hb2⟩
          replace kk := kk.trans (hb2.mono kk.size)
          clear hb2
          go_wp2_with fail
          refine (allWithin_v true _ _ _ _ _ _ _ (hsl'' kk) hn'' h6).mono ?_
          rintro e w2 ⟨rfl, hb2⟩
          replace kk := kk.trans (hb2.mono kk.size)
          clear hb2
          clear v1
          have hp16 := hG.p16
          have hge := hG.ge
          obtain ⟨N, hN⟩ : ∃ N : Nat, prodL os = N := ⟨(prodL os).toNat, by omega⟩
          have hN16 : N ≤ 16 := by omega
          have hgs := hide (show gsz os = N by rw [gsz_ok hG, hN])
          obtain ⟨xs, hxs⟩ : ∃ xs, fromL os D sq pr N = xs := ⟨_, rfl⟩
          have hX := hide hxs
          have hVF := hide (show valsF os D sq pr = xs by unfold valsF; rw [hN]; exact hxs)
          have HC := hide (show mfC os D sq pr = if isM os D xs = true then 0 else 5 by unfold mfC; rw [if_pos (frm_t hg ho HQ.out HP.out h5 h6), hVF.out])
          have hxr : ∀ x ∈ xs, 0 ≤ x ∧ x < D := by rw [← hxs]; exact fromL_rng d1
          have hxl := hide (show xs.length ≤ 1048576 by rw [← hxs, fromL_len]; omega)
          have hvr := hide (show ∀ x ∈ xs, i64ok x from fun x hx => by have := hxr x hx; exact ⟨by omega, by omega⟩)
          have H5 := hide h5
          have H6 := hide h6
          have HT0 := hide (show ∀ x : Nat, ∀ k, k < os.length → 0 ≤ gi (Dg os x) k ∧ gi (Dg os x) k ≤ 16 from fun x k hk => by
            have := Dg_rng hG (x := (x : Int)) (by omega) hk
            have := hG.m16 _ (gi_mem hk)
            omega)
          clear hxs hxr h5 h6 hN
          go_wp2_with fail
          refine (clone_any _ _ _ _ _ _ (hsl kk) (Nat.le_refl _) hn).mono ?_
          rintro e w3 ⟨v, rfl, hO, hb3⟩
          obtain ⟨Av, cv, rfl⟩ := hO.val
          replace hO := hO.less (show W.heap.size ≤ _ from kk.size)
          replace kk := kk.trans (hb3.mono kk.size)
          clear hb3
          obtain ⟨w4, g, hg4, hw4, hB4, hsub, bO, hgB⟩ := be_alloc kk 26 #[.slice none 0 0, .int .i64 0, .slice none 0 0]
          replace hO := hO.below hsub
          have hI : MetIn W W.heap.size w.heap.size g (.slice Av os.length cv) os D (.slice none 0 0) [] (put3 w4 g (.slice Av os.length cv) (.int .i64 D) (.slice none 0 0)) := ⟨put3_far (bR.all hB4) (by omega), put3_own bO (by decide) hO, put3_blk bO, Ow.nil _ _, fun b hb => by simp [Value.ownBlock], put3_below hB4 hgB⟩
          have r0 := bO.cell 0
          have r1 := bO.cell 1
          have r2 := bO.cell 2
          have f0 := bO.frozen 0
          have f1 := bO.frozen 1
          have f2 := bO.frozen 2
          have hRs := hide (show w.heap.size < g by omega)
          have hF0 := hide (show fromL os D sq pr 0 = [] from rfl)
          clear hB4 hsub bO hO kk
          obtain ⟨W3, hW3⟩ : ∃ W3, put3 w4 g (.slice Av os.length cv) (.int .i64 D) (.slice none 0 0) = W3 := ⟨_, rfl⟩
          unfold put3 at hW3 hI
          rw [hW3] at hI
          go_wp2_with fail
          clear hw4 hg4 hW3 r0 r1 r2 f0 f1 f2
          refine (groupSize_any _ _ _ _ _ _ (hsl hI.below) hn).mono ?_
          rw [hgs.out]
          rintro e w5 ⟨rfl, m, hm⟩
          replace hI := hI.drewN m
          rw [← hm] at hI
          clear hm
          go_wp2_with fail
          go_loopw [59] (fun x wr => ∃ (k : Nat) (vv : Value), k ≤ N ∧ x = .int .i64 k ∧ MetIn W W.heap.size w.heap.size g (.slice Av os.length cv) os D vv (fromL os D sq pr k) wr) (fun x _ => N - (intOf x).toNat)
          case atStart => exact ⟨0, _, by omega, rfl, by rw [hF0.out]; exact hI⟩
          case round =>
            clear hI
            obtain ⟨k, vv, hk, rfl, hI⟩ := hrel
            have hwz := hI.below.size
            by_cases hlt : k < N
            · have hOk := HT0.out k
              have hFs := hide (fromL_snoc os D sq pr k)
              have htl := Dg_length os (k : Int)
              obtain ⟨ys, hys⟩ : ∃ ys, fromL os D sq pr k = ys := ⟨_, rfl⟩
              have hlen : ys.length = k := by rw [← hys, fromL_len]
              rw [hys] at hI hFs
              have HL := hide hlen
              clear hys hlen
              have hsz := hI.out.lt
              go_wp2_with fail
              refine wp_region_ord [0, 1, 2, 3, 4, 6, 7, 5, 8, 9, 10, 11, 12, 13] 12 (fun w' => w'.cell? ⟨g, 0, none⟩ = some (.slice Av os.length cv) ∧ w'.cell? ⟨g, 1, none⟩ = some (.int .i64 D) ∧ w'.cell? ⟨g, 2, none⟩ = some vv) (by kernel_rfl) (by kernel_rfl) (by kernel_rfl) (fun _ _ _ _ _ h => h) hI.reads ?_
              repeat (apply ord_take rfl (by rfl) (by rfl); (focus (intro w hSw; (try dsimp only at hSw); go_simp; (try with_reducible rfl))); (try simp only [Act.put, List.setIfInBounds_toArray, List.set_cons_zero, List.set_cons_succ]))
              refine ord_do rfl (by rfl) (by rfl) (fun K hK => ?_)
              go_simp
              refine (tupleOf_any _ _ _ _ _ _ hG (by omega) (by omega) (hsl hI.below.drew)).mono ?_
              rintro e w6 ⟨v, rfl, hO5, hb5⟩
              have hsz5 := hb5.size
              simp only [heap_drew] at hsz5
              have hI1 := hI.drew.all hb5 (by simp; omega)
              obtain ⟨A5, c5, rfl, gt⟩ := hO5.sl (gi_all fun j hj => by rw [htl] at hj; obtain ⟨q0, q1⟩ := hOk j hj; exact ⟨by omega, by omega⟩)
              rw [htl] at gt
              rw [htl]
              obtain ⟨tu, htu⟩ : ∃ tu, Dg os (k : Int) = tu := ⟨_, rfl⟩
              rw [htu] at gt hOk hFs
              clear htu htl hO5 hb5
              refine hK.out _ _ (fun _ => hI1.reads) ?_
              (try simp only [Act.put, List.setIfInBounds_toArray, List.set_cons_zero, List.set_cons_succ])
              clear hK K
              refine ord_do rfl (by rfl) (by rfl) (fun K hK => ?_)
              go_simp
              refine (formAt_any _ _ _ _ _ _ _ _ _ _ _ _ _ _ gt (hsl' hI1.below) (hsl'' hI1.below) h4 HQ.out HP.out hOk (fun v hv => by have := allIn_mem H5.out v hv; omega) (fun v hv => by have := allIn_mem H6.out v hv; omega)).mono ?_
              rintro e w7 ⟨rfl, f0, f1, hDr⟩
              obtain ⟨m, hm⟩ := hDr
              have hI2 := hI1.drewN m
              rw [← hm] at hI2
              clear hm
              have hwz2 := hI2.below.size
              obtain ⟨F, hF⟩ : ∃ F, fA tu sq pr = F := ⟨_, rfl⟩
              rw [hF] at hFs f0 f1
              rw [hF]
              obtain ⟨Y, hY⟩ : ∃ Y, F % D = Y := ⟨_, rfl⟩
              rw [hY] at hFs
              have HY := hide hY
              clear hF hY gt hOk
              refine hK.out _ _ (fun _ => hI2.reads) ?_
              (try simp only [Act.put, List.setIfInBounds_toArray, List.set_cons_zero, List.set_cons_succ])
              clear hK K
              refine ord_do rfl (by rfl) (by rfl) (fun K hK => ?_)
              go_simp
              refine (rest_any _ _ _ _ _ (by omega) (by omega)).mono ?_
              rw [HY.out]
              rintro e w1 ⟨rfl, hr1⟩
              have hsz1 := hr1.size
              have hI3 := hI2.all hr1 hwz2
              have hwz3 := hI3.below.size
              refine hK.out _ _ (fun _ => hI3.reads) ?_
              (try simp only [Act.put, List.setIfInBounds_toArray, List.set_cons_zero, List.set_cons_succ])
              clear hK K
              refine ord_do rfl (by rfl) (by rfl) (fun K hK => ?_)
              go_simp
              have hJ := hI3.alloc hwz3 (.cells #[.int .i64 Y] 2)
              refine hK.out _ _ (fun _ => hJ.reads) ?_
              (try simp only [Act.put, List.setIfInBounds_toArray, List.set_cons_zero, List.set_cons_succ])
              clear hK K
              refine ord_do rfl (by rfl) (by rfl) (fun K hK => ?_)
              refine wp_push _ _ _ (by rfl) W.heap.size vv ys (by rfl) hJ.vals _ w1.heap.size _ (by rfl) (Blk.new _ _ _) (by rw [HL.out]; omega) (by simp; omega) (by simp) ?_
              intro g2 cap w2 hP
              have o2 := hJ.pushed hP
              refine hK.out _ _ (fun _ => ⟨o2.cell 0, o2.cell 1, o2.cell 2⟩) ?_
              (try simp only [Act.put, List.setIfInBounds_toArray, List.set_cons_zero, List.set_cons_succ])
              clear hK K
              refine ord_do rfl (by rfl) (by rfl) (fun K hK => ?_)
              go_simp
              refine hK.out _ _ (fun h => absurd h (by omega)) ?_
              (try simp only [Act.put, List.setIfInBounds_toArray, List.set_cons_zero, List.set_cons_succ])
              clear hK K
              have c2' := o2.cell 2
              have f2' := o2.frozen 2
              refine ord_do rfl (by rfl) (by rfl) (fun K hK => ?_)
              go_simp
              refine hK.out _ _ (fun h => absurd h (by omega)) ?_
              (try simp only [Act.put, List.setIfInBounds_toArray, List.set_cons_zero, List.set_cons_succ])
              clear hK K
              refine ord_nil ?_
              go_wp2
              go_roundw
              case rel => exact ⟨k + 1, _, by omega, by go_num, by rw [hFs.out]; exact hJ.step hP (by simp; omega) (by have := hRs.out; omega) (by omega) (hI3.ordsNe (by omega))⟩
              case measure => simp [intOf]; omega
            · obtain rfl : k = N := by omega
              rw [hX.out] at hI
              obtain ⟨A2, c2, rfl⟩ := hI.vals.val
              have hwz := hI.below.size
              obtain ⟨o0, o1, o2⟩ := hI.reads
              obtain ⟨_, _, he1, gs1⟩ := hI.ords.sl h.rng
              cases he1
              obtain ⟨_, _, he2, gs2⟩ := hI.vals.sl hvr.out
              cases he2
              go_wp2_with fail
              clear o0 o1 o2
              cases hm : isM os D xs with
              | false =>
                refine (implIs_v false _ _ _ _ _ _ _ _ _ _ gs1 gs2 (by omega) hxl.out hm).mono ?_
                rintro e w8 ⟨rfl, hb8⟩
                have hJ := hI.all hb8 hwz
                have hres := hJ.res
                have r0 := hres.cell 0
                have r1 := hres.cell 1
                have r2 := hres.cell 2
                have f0 := hres.frozen 0
                have f1 := hres.frozen 1
                have f2 := hres.frozen 2
                go_wp2
                have hb3 := put3_blk (x := .slice none 0 0) (y := .int .i64 0) (z := .slice none 0 0) hres
                have q0 := hb3.cell 0
                have q1 := hb3.cell 1
                have q2 := hb3.cell 2
                unfold put3 at q0 q1 q2
                refine bodyPost_ret (v := .tuple #[.agg #[.slice none 0 0, .int .i64 0, .slice none 0 0], .int .i64 5]) (by simp [results, Try.results14, go_sem, q0, q1, q2]) rfl ?_
                rw [hVF.out, HC.out, hm, if_neg Bool.false_ne_true, gF_n (by omega), gF_n (by omega), gFI_n (by omega)]
                exact mkM_of_no ⟨rfl, put3_below (hbW.trans (hJ.below.mono (Nat.le_of_lt hszW))) (Nat.le_refl _)⟩
              | true =>
                refine (implIs_v true _ _ _ _ _ _ _ _ _ _ gs1 gs2 (by omega) hxl.out hm).mono ?_
                rintro e w8 ⟨rfl, hb8⟩
                have hJ := hI.all hb8 hwz
                obtain ⟨o0, o1, o2⟩ := hJ.reads
                have hres := hJ.res
                have r0 := hres.cell 0
                have r1 := hres.cell 1
                have r2 := hres.cell 2
                have f0 := hres.frozen 0
                have f1 := hres.frozen 1
                have f2 := hres.frozen 2
                go_wp2
                have hb3 := put3_blk (x := .slice Av os.length cv) (y := .int .i64 D) (z := .slice A2 xs.length c2) hres
                have q0 := hb3.cell 0
                have q1 := hb3.cell 1
                have q2 := hb3.cell 2
                unfold put3 at q0 q1 q2
                refine bodyPost_ret (v := .tuple #[.agg #[.slice Av os.length cv, .int .i64 D, .slice A2 xs.length c2], .int .i64 0]) (by simp [results, Try.results14, go_sem, q0, q1, q2]) rfl ?_
                rw [hVF.out, HC.out, hm, if_pos rfl, gF_0, gF_0, gFI_0]
                exact (hJ.weak hbW (Nat.le_of_lt hszW)).done (Nat.le_refl _)
end Go.Proofs.Ytnoemhmmaicakaa
