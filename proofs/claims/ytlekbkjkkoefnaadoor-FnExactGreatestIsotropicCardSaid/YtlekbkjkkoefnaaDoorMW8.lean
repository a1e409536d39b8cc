
/- GreatestIsotropic of both sides, and its law. -/
import Derived.Test.YtlekbkjkkoefnaaDoorMWL
namespace Go.Proofs.YtlekbkjkkoefnaaDoor
open Go Go.RowKit Grp
set_option linter.unusedSimpArgs false
set_option linter.unusedVariables false
set_option maxHeartbeats 2000000 in
theorem spec_GI_any (w : World) (A : Option Addr) (n c : Nat) (os : List Int) (D : Int) (A' : Option Addr) (n' c' : Nat) (vs : List Int) (h : Sl w w.heap.size A n c os) (h' : Sl w w.heap.size A' n' c' vs) (hn : n ≤ 1048576) (hn' : n' ≤ 1048576) :
    Calls Tryd.prog 21 #[.agg #[.slice A n c, .int .i64 D, .slice A' n' c']] w (MkC w (ifM os D vs (bestL vs.length (isoK os vs))) (codeM os D vs)) := by
  obtain rfl := h'.len
  cases hm : isM os D vs with
  | false =>
    have hC := hide (show codeM os D vs = 1 by unfold codeM; rw [hm]; rfl)
    have hR := hide (show ifM os D vs (bestL vs.length (isoK os vs)) = [] by unfold ifM; rw [hm]; rfl)
    go_enter Tryd.func21, Tryd.ntmps21
    go_wp2_with fail
    obtain ⟨W, hW⟩ : ∃ W, w.alloc (.cells #[.slice A n c, .int .i64 D, .slice A' vs.length c'] 28) = W := ⟨_, rfl⟩
    have hbW : Below w.heap.size w W := by rw [← hW]; exact (by repeat (first | assumption | exact Below.refl _ _ | apply below_drewN | apply Below.drew | apply Below.alloc | apply Below.setCell | omega | (focus (simp; done)) | (focus (simp; omega))))
    have hszW : w.heap.size < W.heap.size := by rw [← hW]; simp
    have hsW := hide (show W.heap.size = w.heap.size + 1 by rw [← hW]; simp)
    have bM : Blk W w.heap.size 28 #[.slice A n c, .int .i64 D, .slice A' vs.length c'] := by rw [← hW]; exact Blk.new _ _ _
    have q0 : W.cell? ⟨w.heap.size, 0, none⟩ = some (.slice A n c) := by rw [← hW]; exact (Blk.new _ _ _).cell 0
    have q1 : W.cell? ⟨w.heap.size, 1, none⟩ = some (.int .i64 D) := by rw [← hW]; exact (Blk.new _ _ _).cell 1
    have q2 : W.cell? ⟨w.heap.size, 2, none⟩ = some (.slice A' vs.length c') := by rw [← hW]; exact (Blk.new _ _ _).cell 2
    rw [hW]
    clear hW
    have hs := (h.below hbW).more (Nat.le_of_lt hszW)
    have hs' := (h'.below hbW).more (Nat.le_of_lt hszW)
    go_wp2_with fail
    refine (l10Is_v false _ _ _ _ _ _ _ _ _ _ hs hs' hn hn' hm).mono ?_
    rintro e w2 ⟨rfl, hb2⟩
    go_wp2_with fail
    refine bodyPost_ret (v := .tuple #[.slice none 0 0, .int .i64 1]) (by simp [results, Tryd.results21, go_sem]) rfl ?_
    exact ⟨_, by rw [hC.out], by rw [hR.out]; exact Ow.nil _ _, hbW.trans (hb2.mono (Nat.le_of_lt hszW))⟩
  | true =>
    have hM := isM_iff.1 hm
    have hC := hide (show codeM os D vs = 0 by unfold codeM; rw [hm]; rfl)
    have hR := hide (show ifM os D vs (bestL vs.length (isoK os vs)) = bestL vs.length (isoK os vs) by unfold ifM; rw [hm]; rfl)
    have hok := hM.ok
    have hG := hok.g
    have N16 := hok.lt
    have HN := hide hok.len.symm
    have HRG := hide (show ∀ x ∈ isoK os vs, 0 ≤ x ∧ x < 2 ^ vs.length ∧ x < 65536 from fun x hx => sgK_rng N16 x (isoK_sub x hx))
    have HL := hide (show (isoK os vs).length ≤ 65536 from Nat.le_trans (isoK_len os vs) (sgK_len N16))
    have HBL := hide (bestL_len vs.length)
    have HML := hide (fun m => mems_len vs.length m)
    go_enter Tryd.func21, Tryd.ntmps21
    go_wp2_with fail
    obtain ⟨W, hW⟩ : ∃ W, w.alloc (.cells #[.slice A n c, .int .i64 D, .slice A' vs.length c'] 28) = W := ⟨_, rfl⟩
    have hbW : Below w.heap.size w W := by rw [← hW]; exact (by repeat (first | assumption | exact Below.refl _ _ | apply below_drewN | apply Below.drew | apply Below.alloc | apply Below.setCell | omega | (focus (simp; done)) | (focus (simp; omega))))
    have hszW : w.heap.size < W.heap.size := by rw [← hW]; simp
    have hsW := hide (show W.heap.size = w.heap.size + 1 by rw [← hW]; simp)
    have bM : Blk W w.heap.size 28 #[.slice A n c, .int .i64 D, .slice A' vs.length c'] := by rw [← hW]; exact Blk.new _ _ _
    have q0 : W.cell? ⟨w.heap.size, 0, none⟩ = some (.slice A n c) := by rw [← hW]; exact (Blk.new _ _ _).cell 0
    have q1 : W.cell? ⟨w.heap.size, 1, none⟩ = some (.int .i64 D) := by rw [← hW]; exact (Blk.new _ _ _).cell 1
    have q2 : W.cell? ⟨w.heap.size, 2, none⟩ = some (.slice A' vs.length c') := by rw [← hW]; exact (Blk.new _ _ _).cell 2
    rw [hW]
    clear hW
    have hs := (h.below hbW).more (Nat.le_of_lt hszW)
    have hs' := (h'.below hbW).more (Nat.le_of_lt hszW)
    go_wp2_with fail
    refine (l10Is_v true _ _ _ _ _ _ _ _ _ _ hs hs' hn hn' hm).mono ?_
    rintro e w2 ⟨rfl, hb2⟩
    have r0 := (hb2.cell (p := ⟨w.heap.size, 0, none⟩) hszW).trans q0
    have r1 := (hb2.cell (p := ⟨w.heap.size, 1, none⟩) hszW).trans q1
    have r2 := (hb2.cell (p := ⟨w.heap.size, 2, none⟩) hszW).trans q2
    have k1 := (hs.below hb2).more hb2.size
    have k2 := (hs'.below hb2).more hb2.size
    have hz2 : w.heap.size < w2.heap.size := Nat.lt_of_lt_of_le hszW hb2.size
    have hbb := hbW.trans (hb2.mono (Nat.le_of_lt hszW))
    clear hs hs' hb2
    go_wp2_with fail
    refine (l11IsoMasks_any _ _ _ _ os D _ _ _ vs k1 k2 hok).mono ?_
    rintro e w3 ⟨v, rfl, hV, hb3⟩
    have p0 := (hb3.cell (p := ⟨w.heap.size, 0, none⟩) hz2).trans r0
    have p1 := (hb3.cell (p := ⟨w.heap.size, 1, none⟩) hz2).trans r1
    have p2 := (hb3.cell (p := ⟨w.heap.size, 2, none⟩) hz2).trans r2
    have hz3 : w.heap.size < w3.heap.size := Nat.lt_of_lt_of_le hz2 hb3.size
    have hO1 : Ow (w3.alloc (.cells #[] 2)) w3.heap.size (.slice (some ⟨w3.heap.size, 0, none⟩) 0 0) [] := Ow.made' (xs := []) w3 #[] w3.heap.size 0 rfl rfl (Nat.le_refl _) rfl (by unfold maxLen; omega)
    have hB2 : Below w3.heap.size w3 (w3.alloc (.cells #[] 2)) := (Below.refl _ _).alloc (Nat.le_refl _) _
    have HR6 := hide (show ∀ x ∈ isoK os vs, i64ok x from fun x hx => by have := HRG.out x hx; exact ⟨by omega, by omega⟩)
    obtain ⟨sA, sc, rfl, hSa⟩ := hV.sl HR6.out
    have hsl : ∀ wd, Below w3.heap.size w3 wd → Sl wd wd.heap.size A n c os := fun wd h9 => ((k1.below hb3).more hb3.size).below h9 |>.more h9.size
    clear r0 r1 r2 hV
    obtain ⟨ml, hml⟩ : ∃ ml, isoK os vs = ml := ⟨_, rfl⟩
    have HQ := hide hml
    rw [hml] at hSa HL HRG ⊢
    clear hml HR6
    obtain ⟨al, hal⟩ : ∃ al, al = ml.length := ⟨_, rfl⟩
    have HAL := hide hal
    have hLas := HL.out
    rw [← hal] at hSa hLas ⊢
    clear hal
    go_wp2_with fail
    go_loopw [5, 6] (fun o i wr => ∃ (k : Nat) (vv : Value), k ≤ al ∧ i = .int .i64 k ∧ vv = o ∧ Ow wr w3.heap.size vv (bestL vs.length (ml.take k)) ∧ Below w3.heap.size w3 wr) (fun _ i _ => al - (intOf i).toNat)
    case atStart => exact ⟨0, _, by omega, rfl, rfl, hO1, hB2⟩
    case round =>
      clear hO1 hB2
      obtain ⟨k, vv, hk, rfl, rfl, hO, hBe⟩ := hrel
      by_cases hlt : k < al
      · obtain ⟨b, off, rfl, hb, hc⟩ := hSa.at_ (by omega)
        have c1 := (hBe.cell (p := ⟨b, off + k, none⟩) hb).trans (hc k hlt)
        clear hc
        have hlk : k < ml.length := by rw [← HAL.out]; exact hlt
        have hr := HRG.out _ (gi_mem hlk)
        obtain ⟨m, hm⟩ := Int.eq_ofNat_of_zero_le hr.1
        have HS := hide (bestL_snoc (N := vs.length) hlk)
        rw [hm] at c1 hr HS
        rw [Int.toNat_natCast] at HS
        have hm6 : m < 65536 := by omega
        have hml2 := HML.out m
        have hbl := HBL.out (ml.take k)
        have hel := fun W' => l11Members_any W' vs.length m N16 hm6
        have HRi := hide (show ∀ x ∈ mems vs.length m, i64ok x from fun x hx => by have := mems_rng x hx; exact ⟨by omega, by omega⟩)
        obtain ⟨mm, hmm⟩ : ∃ mm, mems vs.length m = mm := ⟨_, rfl⟩
        rw [hmm] at HS hml2 hel HRi
        obtain ⟨bb, hbb2⟩ : ∃ bb, bestL vs.length (ml.take k) = bb := ⟨_, rfl⟩
        rw [hbb2] at HS hbl hO
        obtain ⟨vA, vc, rfl⟩ := hO.val
        clear hlk hm hr hmm hbb2
        have hB0 := hBe
        have y0 := (hBe.cell (p := ⟨w.heap.size, 0, none⟩) hz3).trans p0
        have y1 := (hBe.cell (p := ⟨w.heap.size, 1, none⟩) hz3).trans p1
        have y2 := (hBe.cell (p := ⟨w.heap.size, 2, none⟩) hz3).trans p2
        have hbr : b < wr.heap.size := Nat.lt_of_lt_of_le hb hBe.size
        have hwr : w.heap.size < wr.heap.size := Nat.lt_of_lt_of_le hz3 hBe.size
        go_upto_region 7 with fail
        refine wp_region_be [0, 1, 3, 4, 5, 6, 2, 7, 8] 8 wr.heap.size wr (by kernel_rfl) (by kernel_rfl) (by kernel_rfl) (fun _ _ _ _ _ h => h) (Below.refl _ _) (fun wd hBe => ?_)
        repeat (first | (apply ord_tk rfl (by rfl) (by rfl) (by rfl); (focus (intro wx hSw; have r0 := (hSw.cell (p := ⟨w.heap.size, 0, none⟩) hwr).trans y0; have r1 := (hSw.cell (p := ⟨w.heap.size, 1, none⟩) hwr).trans y1; have r2 := (hSw.cell (p := ⟨w.heap.size, 2, none⟩) hwr).trans y2; have r3 := (hSw.cell (p := ⟨b, off + k, none⟩) hbr).trans c1; go_simp; (try with_reducible rfl))); (try simp only [Act.put, List.setIfInBounds_toArray, List.set_cons_zero, List.set_cons_succ])) | (apply ord_skip rfl (by rfl) (by rfl) (fun _ => hBe); (try simp only [Act.put, List.setIfInBounds_toArray, List.set_cons_zero, List.set_cons_succ])))
        refine ord_do rfl (by rfl) (by rfl) (fun K hK => ?_)
        go_simp
        refine (l10Size_any _ _ _ _ _ _ (hsl _ (hB0.trans (hBe.mono hB0.size))) hG).mono ?_
        rw [HN.out]
        rintro e w4 ⟨rfl, m4, hw4⟩
        replace hBe : Below wr.heap.size wr w4 := by rw [hw4]; exact below_drewN hBe m4
        clear hw4
        refine hK.out _ _ (fun _ => hBe) ?_
        (try simp only [Act.put, List.setIfInBounds_toArray, List.set_cons_zero, List.set_cons_succ])
        clear hK K
        repeat (first | (apply ord_tk rfl (by rfl) (by rfl) (by rfl); (focus (intro wx hSw; have r0 := (hSw.cell (p := ⟨w.heap.size, 0, none⟩) hwr).trans y0; have r1 := (hSw.cell (p := ⟨w.heap.size, 1, none⟩) hwr).trans y1; have r2 := (hSw.cell (p := ⟨w.heap.size, 2, none⟩) hwr).trans y2; have r3 := (hSw.cell (p := ⟨b, off + k, none⟩) hbr).trans c1; go_simp; (try with_reducible rfl))); (try simp only [Act.put, List.setIfInBounds_toArray, List.set_cons_zero, List.set_cons_succ])) | (apply ord_skip rfl (by rfl) (by rfl) (fun _ => hBe); (try simp only [Act.put, List.setIfInBounds_toArray, List.set_cons_zero, List.set_cons_succ])))
        refine ord_do rfl (by rfl) (by rfl) (fun K hK => ?_)
        go_simp
        refine (hel _).mono ?_
        rintro e w5 ⟨v5, rfl, hV5, hb5⟩
        have hz5 := hBe.size
        have hz6 := hB0.size
        replace hBe := hBe.trans (hb5.mono hBe.size)
        refine hK.out _ _ (fun _ => hBe) ?_
        (try simp only [Act.put, List.setIfInBounds_toArray, List.set_cons_zero, List.set_cons_succ])
        clear hK K
        obtain ⟨mA, mc, rfl, hSm⟩ := hV5.sl HRi.out
        repeat (first | (apply ord_tk rfl (by rfl) (by rfl) (by rfl); (focus (intro wx hSw; have r0 := (hSw.cell (p := ⟨w.heap.size, 0, none⟩) hwr).trans y0; have r1 := (hSw.cell (p := ⟨w.heap.size, 1, none⟩) hwr).trans y1; have r2 := (hSw.cell (p := ⟨w.heap.size, 2, none⟩) hwr).trans y2; have r3 := (hSw.cell (p := ⟨b, off + k, none⟩) hbr).trans c1; go_simp; (try with_reducible rfl))); (try simp only [Act.put, List.setIfInBounds_toArray, List.set_cons_zero, List.set_cons_succ])) | (apply ord_skip rfl (by rfl) (by rfl) (fun _ => hBe); (try simp only [Act.put, List.setIfInBounds_toArray, List.set_cons_zero, List.set_cons_succ])))
        refine ord_do rfl (by rfl) (by rfl) (fun K hK => ?_)
        go_simp
        refine hK.out _ _ (fun h => absurd h (by omega)) ?_
        (try simp only [Act.put, List.setIfInBounds_toArray, List.set_cons_zero, List.set_cons_succ])
        clear hK K
        refine ord_nil ?_
        replace hO := hO.below hBe
        replace hBe := hB0.trans (hBe.mono hB0.size)
        clear hB0 y0 y1 y2 hb5 hel c1
        by_cases hgt : bb.length < mm.length
        · rw [if_pos hgt] at HS
          have hgt' : (bb.length : Int) < (mm.length : Int) := by omega
          go_wp2_with fail
          go_roundw
          case rel => exact ⟨k + 1, _, by omega, by go_num, rfl, by rw [HS.out]; exact hV5.less (by omega), hBe⟩
          case measure => simp [intOf] <;> omega
        · rw [if_neg hgt] at HS
          have hgt' : ¬ (bb.length : Int) < (mm.length : Int) := by omega
          go_wp2_with fail
          go_roundw
          case rel => exact ⟨k + 1, _, by omega, by go_num, rfl, by rw [HS.out]; exact hO, hBe⟩
          case measure => simp [intOf] <;> omega
      · obtain rfl : k = al := by omega
        rw [List.take_of_length_le (by rw [← HAL.out]; exact Nat.le_refl _)] at hO
        go_wp2_with fail
        refine bodyPost_ret (v := .tuple #[vv, .int .i64 0]) (by simp [results, Tryd.results21, go_sem]) rfl ?_
        exact ⟨_, by rw [hC.out], by rw [hR.out, HQ.out]; exact hO.less (Nat.le_of_lt hz3), hbb.trans ((hb3.trans (hBe.mono hb3.size)).mono (Nat.le_of_lt hz2))⟩
set_option maxHeartbeats 2000000 in
theorem impl_GI_any (w : World) (A : Option Addr) (n c : Nat) (os : List Int) (D : Int) (A' : Option Addr) (n' c' : Nat) (vs : List Int) (h : Sl w w.heap.size A n c os) (h' : Sl w w.heap.size A' n' c' vs) (hn : n ≤ 1048576) (hn' : n' ≤ 1048576) (hT : Tb w) :
    Calls Tryd.prog 22 #[.agg #[.slice A n c, .int .i64 D, .slice A' n' c']] w (MkC w (ifM os D vs (bestL vs.length (isoK os vs))) (codeM os D vs)) := by
  obtain rfl := h'.len
  cases hm : isM os D vs with
  | false =>
    have hC := hide (show codeM os D vs = 1 by unfold codeM; rw [hm]; rfl)
    have hR := hide (show ifM os D vs (bestL vs.length (isoK os vs)) = [] by unfold ifM; rw [hm]; rfl)
    go_enter Tryd.func22, Tryd.ntmps22
    go_wp2_with fail
    obtain ⟨W, hW⟩ : ∃ W, w.alloc (.cells #[.slice A n c, .int .i64 D, .slice A' vs.length c'] 28) = W := ⟨_, rfl⟩
    have hbW : Below w.heap.size w W := by rw [← hW]; exact (by repeat (first | assumption | exact Below.refl _ _ | apply below_drewN | apply Below.drew | apply Below.alloc | apply Below.setCell | omega | (focus (simp; done)) | (focus (simp; omega))))
    have hszW : w.heap.size < W.heap.size := by rw [← hW]; simp
    have hsW := hide (show W.heap.size = w.heap.size + 1 by rw [← hW]; simp)
    have bM : Blk W w.heap.size 28 #[.slice A n c, .int .i64 D, .slice A' vs.length c'] := by rw [← hW]; exact Blk.new _ _ _
    have q0 : W.cell? ⟨w.heap.size, 0, none⟩ = some (.slice A n c) := by rw [← hW]; exact (Blk.new _ _ _).cell 0
    have q1 : W.cell? ⟨w.heap.size, 1, none⟩ = some (.int .i64 D) := by rw [← hW]; exact (Blk.new _ _ _).cell 1
    have q2 : W.cell? ⟨w.heap.size, 2, none⟩ = some (.slice A' vs.length c') := by rw [← hW]; exact (Blk.new _ _ _).cell 2
    rw [hW]
    clear hW
    have hs := (h.below hbW).more (Nat.le_of_lt hszW)
    have hs' := (h'.below hbW).more (Nat.le_of_lt hszW)
    go_wp2_with fail
    refine (implIs_v false _ _ _ _ _ _ _ _ _ _ hs hs' hn hn' hm).mono ?_
    rintro e w2 ⟨rfl, hb2⟩
    go_wp2_with fail
    refine bodyPost_ret (v := .tuple #[.slice none 0 0, .int .i64 1]) (by simp [results, Tryd.results22, go_sem]) rfl ?_
    exact ⟨_, by rw [hC.out], by rw [hR.out]; exact Ow.nil _ _, hbW.trans (hb2.mono (Nat.le_of_lt hszW))⟩
  | true =>
    have hM := isM_iff.1 hm
    have hC := hide (show codeM os D vs = 0 by unfold codeM; rw [hm]; rfl)
    have hR := hide (show ifM os D vs (bestL vs.length (isoK os vs)) = bestL vs.length (isoK os vs) by unfold ifM; rw [hm]; rfl)
    have hok := hM.ok
    have hG := hok.g
    have N16 := hok.lt
    have HN := hide hok.len.symm
    have HRG := hide (show ∀ x ∈ isoK os vs, 0 ≤ x ∧ x < 2 ^ vs.length ∧ x < 65536 from fun x hx => sgK_rng N16 x (isoK_sub x hx))
    have HL := hide (show (isoK os vs).length ≤ 65536 from Nat.le_trans (isoK_len os vs) (sgK_len N16))
    have HBL := hide (bestL_len vs.length)
    have HML := hide (fun m => mems_len vs.length m)
    go_enter Tryd.func22, Tryd.ntmps22
    go_wp2_with fail
    obtain ⟨W, hW⟩ : ∃ W, w.alloc (.cells #[.slice A n c, .int .i64 D, .slice A' vs.length c'] 28) = W := ⟨_, rfl⟩
    have hbW : Below w.heap.size w W := by rw [← hW]; exact (by repeat (first | assumption | exact Below.refl _ _ | apply below_drewN | apply Below.drew | apply Below.alloc | apply Below.setCell | omega | (focus (simp; done)) | (focus (simp; omega))))
    have hszW : w.heap.size < W.heap.size := by rw [← hW]; simp
    have hsW := hide (show W.heap.size = w.heap.size + 1 by rw [← hW]; simp)
    have bM : Blk W w.heap.size 28 #[.slice A n c, .int .i64 D, .slice A' vs.length c'] := by rw [← hW]; exact Blk.new _ _ _
    have q0 : W.cell? ⟨w.heap.size, 0, none⟩ = some (.slice A n c) := by rw [← hW]; exact (Blk.new _ _ _).cell 0
    have q1 : W.cell? ⟨w.heap.size, 1, none⟩ = some (.int .i64 D) := by rw [← hW]; exact (Blk.new _ _ _).cell 1
    have q2 : W.cell? ⟨w.heap.size, 2, none⟩ = some (.slice A' vs.length c') := by rw [← hW]; exact (Blk.new _ _ _).cell 2
    rw [hW]
    clear hW
    have hs := (h.below hbW).more (Nat.le_of_lt hszW)
    have hs' := (h'.below hbW).more (Nat.le_of_lt hszW)
    go_wp2_with fail
    refine (implIs_v true _ _ _ _ _ _ _ _ _ _ hs hs' hn hn' hm).mono ?_
    rintro e w2 ⟨rfl, hb2⟩
    have r0 := (hb2.cell (p := ⟨w.heap.size, 0, none⟩) hszW).trans q0
    have r1 := (hb2.cell (p := ⟨w.heap.size, 1, none⟩) hszW).trans q1
    have r2 := (hb2.cell (p := ⟨w.heap.size, 2, none⟩) hszW).trans q2
    have k1 := (hs.below hb2).more hb2.size
    have k2 := (hs'.below hb2).more hb2.size
    have hz2 : w.heap.size < w2.heap.size := Nat.lt_of_lt_of_le hszW hb2.size
    have hbb := hbW.trans (hb2.mono (Nat.le_of_lt hszW))
    clear hs hs' hb2
    have c0 := (((Below.refl w2.heap.size w2).alloc (Nat.le_refl _) (.cells #[] 2)).cell (p := ⟨w.heap.size, 0, none⟩) hz2).trans r0
    have c1 := (((Below.refl w2.heap.size w2).alloc (Nat.le_refl _) (.cells #[] 2)).cell (p := ⟨w.heap.size, 1, none⟩) hz2).trans r1
    have c2 := (((Below.refl w2.heap.size w2).alloc (Nat.le_refl _) (.cells #[] 2)).cell (p := ⟨w.heap.size, 2, none⟩) hz2).trans r2
    have hB1 : Below w2.heap.size w2 (w2.alloc (.cells #[] 2)) := (Below.refl _ _).alloc (Nat.le_refl _) _
    have hO1 : Ow (w2.alloc (.cells #[] 2)) w2.heap.size (.slice (some ⟨w2.heap.size, 0, none⟩) 0 0) [] := Ow.made' (xs := []) w2 #[] w2.heap.size 0 rfl rfl (Nat.le_refl _) rfl (by unfold maxLen; omega)
    go_wp2_with fail
    refine (isotropicMasks_any _ _ _ _ os D _ _ _ vs ((k1.below hB1).more hB1.size) ((k2.below hB1).more hB1.size) hok ((hT.bel hbb).bel hB1)).mono ?_
    rintro e w3 ⟨v, rfl, hV, hb3⟩
    replace hO1 := hO1.below hb3
    replace hB1 := hB1.trans (hb3.mono hB1.size)
    have HR6 := hide (show ∀ x ∈ isoK os vs, i64ok x from fun x hx => by have := HRG.out x hx; exact ⟨by omega, by omega⟩)
    obtain ⟨sA, sc, rfl, hSa⟩ := hV.sl HR6.out
    have hTB := fun wd (h9 : Below w3.heap.size w3 wd) => (((hT.bel hbb).bel hB1).bel h9)
    clear hb3 c0 c1 c2 r0 r1 r2 hV
    obtain ⟨ml, hml⟩ : ∃ ml, isoK os vs = ml := ⟨_, rfl⟩
    have HQ := hide hml
    rw [hml] at hSa HL HRG ⊢
    clear hml HR6
    obtain ⟨al, hal⟩ : ∃ al, al = ml.length := ⟨_, rfl⟩
    have HAL := hide hal
    have hLas := HL.out
    rw [← hal] at hSa hLas ⊢
    clear hal
    go_wp2_with fail
    go_loopw [4, 15] (fun o i wr => ∃ (k : Nat) (vv : Value), k ≤ al ∧ i = .int .i64 k ∧ vv = o ∧ Ow wr w2.heap.size vv (bestL vs.length (ml.take k)) ∧ Below w3.heap.size w3 wr) (fun _ i _ => al - (intOf i).toNat)
    case atStart => exact ⟨0, _, by omega, rfl, rfl, hO1, Below.refl _ _⟩
    case round =>
      clear hO1
      obtain ⟨k, vv, hk, rfl, rfl, hO, hBe⟩ := hrel
      have hBz := hB1.size
      by_cases hlt : k < al
      · obtain ⟨b, off, rfl, hb, hc⟩ := hSa.at_ (by omega)
        have c1 := (hBe.cell (p := ⟨b, off + k, none⟩) hb).trans (hc k hlt)
        clear hc
        have hlk : k < ml.length := by rw [← HAL.out]; exact hlt
        have hr := HRG.out _ (gi_mem hlk)
        obtain ⟨m, hm⟩ := Int.eq_ofNat_of_zero_le hr.1
        have HS := hide (bestL_snoc (N := vs.length) hlk)
        rw [hm] at c1 hr HS
        rw [Int.toNat_natCast] at HS
        have hm2 : m < 2 ^ vs.length := pow_cast hr.2.1
        have hml2 := HML.out m
        have hbl := HBL.out (ml.take k)
        have hel := fun W' (h9 : Tb W') => elementsOf_any W' vs.length m N16 hm2 h9
        have HRi := hide (show ∀ x ∈ mems vs.length m, i64ok x from fun x hx => by have := mems_rng x hx; exact ⟨by omega, by omega⟩)
        obtain ⟨mm, hmm⟩ : ∃ mm, mems vs.length m = mm := ⟨_, rfl⟩
        rw [hmm] at HS hml2 hel HRi
        obtain ⟨bb, hbb2⟩ : ∃ bb, bestL vs.length (ml.take k) = bb := ⟨_, rfl⟩
        rw [hbb2] at HS hbl hO
        obtain ⟨vA, vc, rfl⟩ := hO.val
        clear hlk hm hr hm2 hmm hbb2
        go_wp2_with fail
        refine (hel _ (hTB _ hBe)).mono ?_
        rintro e w5 ⟨v5, rfl, hV5, hb5⟩
        have hz5 := hBe.size
        replace hO := hO.below hb5
        replace hBe := hBe.trans (hb5.mono hBe.size)
        obtain ⟨mA, mc, rfl, hSm⟩ := hV5.sl HRi.out
        clear hb5 hel c1
        by_cases hgt : bb.length < mm.length
        · rw [if_pos hgt] at HS
          have hgt' : (bb.length : Int) < (mm.length : Int) := by omega
          go_wp2_with fail
          go_roundw
          case rel => exact ⟨k + 1, _, by omega, by go_num, rfl, by rw [HS.out]; exact hV5.less (by omega), hBe⟩
          case measure => simp [intOf] <;> omega
        · rw [if_neg hgt] at HS
          have hgt' : ¬ (bb.length : Int) < (mm.length : Int) := by omega
          go_wp2_with fail
          go_roundw
          case rel => exact ⟨k + 1, _, by omega, by go_num, rfl, by rw [HS.out]; exact hO, hBe⟩
          case measure => simp [intOf] <;> omega
      · obtain rfl : k = al := by omega
        rw [List.take_of_length_le (by rw [← HAL.out]; exact Nat.le_refl _)] at hO
        go_wp2_with fail
        refine bodyPost_ret (v := .tuple #[vv, .int .i64 0]) (by simp [results, Tryd.results22, go_sem]) rfl ?_
        exact ⟨_, by rw [hC.out], by rw [hR.out, HQ.out]; exact hO.less (Nat.le_of_lt hz2), hbb.trans ((hB1.trans (hBe.mono hBz)).mono (Nat.le_of_lt hz2))⟩
noncomputable def gbX (x : metric_T) : List Int := ifM x.1 x.2.1 x.2.2 (bestL x.2.2.length (isoK x.1 x.2.2))
theorem gbX_rng (x : metric_T) : ∀ v ∈ gbX x, i64ok v := by
  intro v hv
  unfold gbX ifM at hv
  split at hv
  · rename_i hm
    have := (isM_iff.1 hm).ok.lt
    have := bestL_mem _ v hv
    exact ⟨by omega, by omega⟩
  · simp at hv
theorem gbX_tot (x : metric_T) : ints_tot (gbX x) ≤ 1048576 := by
  unfold ints_tot gbX ifM
  split
  · rename_i hm
    have := (isM_iff.1 hm).ok.lt
    have := bestL_len x.2.2.length (isoK x.1 x.2.2)
    omega
  · simp
theorem specGI_c (w : World) (v : Value) (x : metric_T) (h : metric_R w w.heap.size v x) (hs : metric_Sh x) :
    Calls Tryd.prog 21 #[v] w (MkEC ints_E w (gbX x) (mK x)) := by
  obtain ⟨A, n, c, D, m, e, rfl, h1, h2, h3⟩ := h
  have hs2 : x.1.length + x.2.2.length ≤ 1048576 := hs
  have l1 := h1.len
  have l2 := h2.len
  exact (spec_GI_any w A n c x.1 x.2.1 D m e x.2.2 h1 h2 (by omega) (by omega)).mono fun _ _ h => mkEC_own h (gbX_rng x)
theorem implGI_c (w : World) (v : Value) (x : metric_T) (h : metric_R w w.heap.size v x) (hs : metric_Sh x) (hT : Tb w) :
    Calls Tryd.prog 22 #[v] w (MkEC ints_E w (gbX x) (mK x)) := by
  obtain ⟨A, n, c, D, m, e, rfl, h1, h2, h3⟩ := h
  have hs2 : x.1.length + x.2.2.length ≤ 1048576 := hs
  have l1 := h1.len
  have l2 := h2.len
  exact (impl_GI_any w A n c x.1 x.2.1 D m e x.2.2 h1 h2 (by omega) (by omega) hT).mono fun _ _ h => mkEC_own h (gbX_rng x)
set_option maxHeartbeats 8000000 in
set_option maxRecDepth 100000 in
theorem law_GreatestIsotropic {w : World} (hT : Tb w) (v0 : Value) (x0 : metric_T) (HA0 : metric_R w w.heap.size v0 x0) (HB0 : metric_Big x0) : Calls Tryd.prog 5 #[v0] w (Re w (.bool true)) := by
  obtain ⟨A0, n0, c0, z0, D0, m0, e0, rfl, hf⟩ := metric_form HA0
  clear hf
  by_cases q0 : (1048576 : Int) - (metric_tot x0 : Int) < 0
  · have HZ0 := hide (fun (W : World) (h : Below w.heap.size w W) => metric_sz W _ x0 1048576 (metric_keep HA0 h h.size) HB0 (by omega) (by omega))
    rw [szI_no q0] at HZ0
    go_enter Tryd.func5, Tryd.ntmps5
    go_wp2_with fail
    obtain ⟨W, hW⟩ : ∃ W, w.alloc (.cells #[.slice A0 n0 c0, .int .i64 z0, .slice D0 m0 e0] 24) = W := ⟨_, rfl⟩
    have kw : Below w.heap.size w W := by rw [← hW]; exact (by repeat (first | assumption | exact Below.refl _ _ | apply below_drewN | apply Below.drew | apply Below.alloc | apply Below.setCell | omega | (focus (simp; done)) | (focus (simp; omega))))
    have bA0 : Blk W (w.heap.size) 24 #[.slice A0 n0 c0, .int .i64 z0, .slice D0 m0 e0] := by rw [← hW]; exact (Blk.new' _ _ _ _ (by simp))
    have sA0 : w.heap.size < W.heap.size := bA0.lt
    rw [hW]
    clear hW
    refine (HZ0.out _ kw).mono ?_
    rintro e ws0 ⟨rfl, hb⟩
    replace kw := kw.trans (hb.mono kw.size)
    replace bA0 := bA0.all hb
    replace sA0 := Nat.lt_of_lt_of_le sA0 hb.size
    clear hb
    have bA0c0 := bA0.cell 0
    have bA0c1 := bA0.cell 1
    have bA0c2 := bA0.cell 2
    go_wp2_with fail
    clear bA0c0 bA0c1 bA0c2
    go_ret
    exact ⟨rfl, kw⟩
  · have HZ0 := hide (fun (W : World) (h : Below w.heap.size w W) => metric_sz W _ x0 1048576 (metric_keep HA0 h h.size) HB0 (by omega) (by omega))
    rw [szI_ok q0] at HZ0
    have HS0 : metric_tot x0 ≤ 1048576 := by omega
    obtain ⟨l1, el1⟩ : ∃ l, (1048576 : Int) - (metric_tot x0 : Int) = l := ⟨_, rfl⟩
    have bl1a : 0 ≤ l1 := by omega
    have bl1b : l1 ≤ 1048576 := by omega
    rw [el1] at HZ0
    clear el1 q0
    have SH0 := metric_sh HS0
    have SL0 := metric_sumle x0
    obtain ⟨y0, hy0⟩ : ∃ y : List Int, gbX x0 = y := ⟨_, rfl⟩
    have HY0 := hide hy0
    clear hy0
    obtain ⟨y1, hy1⟩ : ∃ y : Int, mK x0 = y := ⟨_, rfl⟩
    have HY1 := hide hy1
    clear hy1
    have SY0 : ints_tot y0 ≤ 1048576 := by rw [← HY0.out]; exact gbX_tot x0
    have SY := ints_sh SY0
    have SY2 := ints_sumle y0
    go_enter Tryd.func5, Tryd.ntmps5
    go_wp2_with fail
    obtain ⟨W, hW⟩ : ∃ W, w.alloc (.cells #[.slice A0 n0 c0, .int .i64 z0, .slice D0 m0 e0] 24) = W := ⟨_, rfl⟩
    have kw : Below w.heap.size w W := by rw [← hW]; exact (by repeat (first | assumption | exact Below.refl _ _ | apply below_drewN | apply Below.drew | apply Below.alloc | apply Below.setCell | omega | (focus (simp; done)) | (focus (simp; omega))))
    have bA0 : Blk W (w.heap.size) 24 #[.slice A0 n0 c0, .int .i64 z0, .slice D0 m0 e0] := by rw [← hW]; exact (Blk.new' _ _ _ _ (by simp))
    have sA0 : w.heap.size < W.heap.size := bA0.lt
    rw [hW]
    clear hW
    refine (HZ0.out _ kw).mono ?_
    rintro e ws0 ⟨rfl, hb⟩
    replace kw := kw.trans (hb.mono kw.size)
    replace bA0 := bA0.all hb
    replace sA0 := Nat.lt_of_lt_of_le sA0 hb.size
    clear hb
    have bA0c0 := bA0.cell 0
    have bA0c1 := bA0.cell 1
    have bA0c2 := bA0.cell 2
    go_wp2_with fail
    clear bA0c0 bA0c1 bA0c2
    refine (metric_to _ _ x0 (metric_keep HA0 kw kw.size) SH0).mono ?_
    rintro e t1 ⟨u, rfl, he, hb⟩
    obtain ⟨As0, ns0, cs0, zs0, Ds0, ms0, es0, rfl, hf⟩ := metric_form (metric_rd he)
    clear hf
    have hbs := hb.size
    replace kw := kw.trans (hb.mono kw.size)
    replace bA0 := bA0.all hb
    replace sA0 := Nat.lt_of_lt_of_le sA0 hb.size
    clear hb
    clear hbs
    have Es0 := he
    clear he
    have bA0c0 := bA0.cell 0
    have bA0c1 := bA0.cell 1
    have bA0c2 := bA0.cell 2
    go_wp2_with fail
    clear bA0c0 bA0c1 bA0c2
    have hcl := (specGI_c t1 _ x0 (metric_rd Es0) SH0)
    rw [HY0.out, HY1.out] at hcl
    have HCL := hide hcl
    clear hcl
    refine HCL.out.mono ?_
    rintro e t2 ⟨u, rfl, he, hb⟩
    clear HCL
    obtain ⟨Aw, nw, cw, rfl, hf⟩ := ints_form (ints_rd he)
    clear hf
    replace kw := kw.trans (hb.mono kw.size)
    replace bA0 := bA0.all hb
    replace sA0 := Nat.lt_of_lt_of_le sA0 hb.size
    replace Es0 := metric_below Es0 hb
    clear hb
    clear Es0
    have SA0t2 := sA0
    have Kt2 := kw.size
    have Zt2 := Nat.le_refl t2.heap.size
    have Rw := ints_rd he
    clear he
    have bA0c0 := bA0.cell 0
    have bA0c1 := bA0.cell 1
    have bA0c2 := bA0.cell 2
    go_wp2_with fail
    clear bA0c0 bA0c1 bA0c2
    refine (metric_to _ _ x0 (metric_keep HA0 kw kw.size) SH0).mono ?_
    rintro e t3 ⟨u, rfl, he, hb⟩
    obtain ⟨Ax0, nx0, cx0, zx0, Dx0, mx0, ex0, rfl, hf⟩ := metric_form (metric_rd he)
    clear hf
    have hbs := hb.size
    replace kw := kw.trans (hb.mono kw.size)
    replace bA0 := bA0.all hb
    replace sA0 := Nat.lt_of_lt_of_le sA0 hb.size
    replace Rw := ints_keep Rw (hb.mono Zt2) (Nat.le_refl _)
    replace Zt2 := Nat.le_trans Zt2 hb.size
    clear hb
    clear hbs
    have EX0 := he
    clear he
    have Ot2t3 := Zt2
    have SA0t3 := sA0
    have Kt3 := kw.size
    have Zt3 := Nat.le_refl t3.heap.size
    obtain ⟨X0, hX0⟩ : ∃ X, t3.heap.size = X := ⟨_, rfl⟩
    have sA0l2 : w.heap.size < X0 := by omega
    have bA0c0 := bA0.cell 0
    have bA0c1 := bA0.cell 1
    have bA0c2 := bA0.cell 2
    go_wp2_with fail
    clear bA0c0 bA0c1 bA0c2
    clear sA0l2
    obtain ⟨t4, ht4⟩ : ∃ w5, t3.alloc (.cells #[.slice Ax0 nx0 cx0, .int .i64 zx0, .slice Dx0 mx0 ex0] 28) = w5 := ⟨_, rfl⟩
    have hb : Below t3.heap.size t3 t4 := by rw [← ht4]; exact (Below.refl _ _).alloc (Nat.le_refl _) _
    have bX0 : Blk t4 X0 28 #[.slice Ax0 nx0 cx0, .int .i64 zx0, .slice Dx0 mx0 ex0] := by rw [← ht4]; exact Blk.new' _ _ _ _ hX0
    rw [ht4]
    clear ht4
    replace kw := kw.trans (hb.mono kw.size)
    replace bA0 := bA0.all hb
    replace sA0 := Nat.lt_of_lt_of_le sA0 hb.size
    replace EX0 := metric_below EX0 hb
    replace Rw := ints_keep Rw (hb.mono Zt2) (Nat.le_refl _)
    replace Zt2 := Nat.le_trans Zt2 hb.size
    replace Zt3 := Nat.le_trans Zt3 hb.size
    clear hb
    have gX0 := bX0.lt
    have Ot2t4 := Zt2
    have Ot3t4 := Zt3
    have SA0t4 := sA0
    have GbX0t4 := bX0.lt
    have Kt4 := kw.size
    have Zt4 := Nat.le_refl t4.heap.size
    clear gX0
    have hcl := (implGI_c t4 _ x0 (metric_rd EX0) SH0 (hT.bel kw))
    rw [HY0.out, HY1.out] at hcl
    have HCL := hide hcl
    clear hcl
    refine HCL.out.mono ?_
    rintro e t5 ⟨u, rfl, he, hb⟩
    clear HCL
    obtain ⟨Ag, ng, cg, rfl, hf⟩ := ints_form (ints_rd he)
    clear hf
    replace kw := kw.trans (hb.mono kw.size)
    replace bA0 := bA0.all hb
    replace sA0 := Nat.lt_of_lt_of_le sA0 hb.size
    replace bX0 := bX0.all hb
    replace EX0 := metric_below EX0 hb
    replace Rw := ints_keep Rw (hb.mono Zt2) (Nat.le_refl _)
    replace Zt2 := Nat.le_trans Zt2 hb.size
    replace Zt3 := Nat.le_trans Zt3 hb.size
    replace Zt4 := Nat.le_trans Zt4 hb.size
    clear hb
    have Eg := he
    clear he
    have Ot2t5 := Zt2
    have Ot3t5 := Zt3
    have Ot4t5 := Zt4
    have SA0t5 := sA0
    have GbX0t5 := bX0.lt
    have Kt5 := kw.size
    have Zt5 := Nat.le_refl t5.heap.size
    have bA0c0 := bA0.cell 0
    have bA0c1 := bA0.cell 1
    have bA0c2 := bA0.cell 2
    have bX0c0 := bX0.cell 0
    have bX0c1 := bX0.cell 1
    have bX0c2 := bX0.cell 2
    have bX0lt := bX0.lt
    go_wp2_with fail
    clear bA0c0 bA0c1 bA0c2 bX0c0 bX0c1 bX0c2 bX0lt
    refine (ints_eq _ _ _ y0 y0 (ints_rd Eg) (ints_keep Rw (Below.refl _ _) Zt2) SY).mono ?_
    rintro e t6 ⟨rfl, hb⟩
    simp only [beq_self_eq_true]
    replace kw := kw.trans (hb.mono kw.size)
    replace bA0 := bA0.all hb
    replace sA0 := Nat.lt_of_lt_of_le sA0 hb.size
    replace bX0 := bX0.all hb
    replace EX0 := metric_below EX0 hb
    replace Eg := ints_below Eg hb
    replace Rw := ints_keep Rw (hb.mono Zt2) (Nat.le_refl _)
    replace Zt2 := Nat.le_trans Zt2 hb.size
    replace Zt3 := Nat.le_trans Zt3 hb.size
    replace Zt4 := Nat.le_trans Zt4 hb.size
    replace Zt5 := Nat.le_trans Zt5 hb.size
    clear hb
    have bA0c0 := bA0.cell 0
    have bA0c1 := bA0.cell 1
    have bA0c2 := bA0.cell 2
    have bX0c0 := bX0.cell 0
    have bX0c1 := bX0.cell 1
    have bX0c2 := bX0.cell 2
    have bX0lt := bX0.lt
    go_wp2_with fail
    clear bA0c0 bA0c1 bA0c2 bX0c0 bX0c1 bX0c2 bX0lt
    have HXl := bX0.lt
    have HAl := bA0.lt
    have rA0 := bA0.cell 0
    have rX0 := bX0.cell 0
    have rA1 := bA0.cell 1
    have rX1 := bX0.cell 1
    have rA2 := bA0.cell 2
    have rX2 := bX0.cell 2
    refine wp_region_be [0, 1, 2, 3, 4] 5 t6.heap.size t6 (by kernel_rfl) (by kernel_rfl) (by kernel_rfl) (fun _ _ _ _ _ h => h) (Below.refl _ _) (fun wd hBe => ?_)
    repeat (first | (apply ord_tk rfl (by rfl) (by rfl) (by rfl); (focus (intro wx hSw; have r0 := (hSw.cell (p := ⟨w.heap.size, 0, none⟩) HAl).trans rA0; have r1 := (hSw.cell (p := ⟨w.heap.size, 1, none⟩) HAl).trans rA1; have r2 := (hSw.cell (p := ⟨w.heap.size, 2, none⟩) HAl).trans rA2; have s0 := (hSw.cell (p := ⟨X0, 0, none⟩) HXl).trans rX0; have s1 := (hSw.cell (p := ⟨X0, 1, none⟩) HXl).trans rX1; have s2 := (hSw.cell (p := ⟨X0, 2, none⟩) HXl).trans rX2; go_simp; (try with_reducible rfl))); (try simp only [Act.put, List.setIfInBounds_toArray, List.set_cons_zero, List.set_cons_succ])) | (apply ord_skip rfl (by rfl) (by rfl) (fun _ => hBe); (try simp only [Act.put, List.setIfInBounds_toArray, List.set_cons_zero, List.set_cons_succ])))
    refine ord_do rfl (by rfl) (by rfl) (fun K hK => ?_)
    go_simp
    have kq := kw.trans (hBe.mono kw.size)
    refine (metric_to _ _ x0 (metric_keep HA0 kq kq.size) SH0).mono ?_
    rintro e wq ⟨u, rfl, he, hb⟩
    obtain ⟨Ar0, nr0, cr0, zr0, Dr0, mr0, er0, rfl, hf⟩ := metric_form (metric_rd he)
    clear hf
    replace hBe := hBe.trans (hb.mono hBe.size)
    clear hb kq
    refine hK.out _ _ (fun _ => hBe) ?_
    (try simp only [Act.put, List.setIfInBounds_toArray, List.set_cons_zero, List.set_cons_succ])
    clear hK K
    repeat (first | (apply ord_tk rfl (by rfl) (by rfl) (by rfl); (focus (intro wx hSw; have r0 := (hSw.cell (p := ⟨w.heap.size, 0, none⟩) HAl).trans rA0; have r1 := (hSw.cell (p := ⟨w.heap.size, 1, none⟩) HAl).trans rA1; have r2 := (hSw.cell (p := ⟨w.heap.size, 2, none⟩) HAl).trans rA2; have s0 := (hSw.cell (p := ⟨X0, 0, none⟩) HXl).trans rX0; have s1 := (hSw.cell (p := ⟨X0, 1, none⟩) HXl).trans rX1; have s2 := (hSw.cell (p := ⟨X0, 2, none⟩) HXl).trans rX2; go_simp; (try with_reducible rfl))); (try simp only [Act.put, List.setIfInBounds_toArray, List.set_cons_zero, List.set_cons_succ])) | (apply ord_skip rfl (by rfl) (by rfl) (fun _ => hBe); (try simp only [Act.put, List.setIfInBounds_toArray, List.set_cons_zero, List.set_cons_succ])))
    refine ord_do rfl (by rfl) (by rfl) (fun K hK => ?_)
    go_simp
    refine (metric_eq _ _ _ x0 x0 (metric_rd (metric_below EX0 hBe)) (metric_rd he) SH0).mono ?_
    rintro e wd' ⟨rfl, hwd⟩
    replace hBe := hBe.trans (hwd.mono hBe.size)
    clear hwd
    refine hK.out _ _ (fun _ => hBe) ?_
    (try simp only [Act.put, List.setIfInBounds_toArray, List.set_cons_zero, List.set_cons_succ])
    clear hK K
    simp only [beq_self_eq_true]
    repeat (first | (apply ord_tk rfl (by rfl) (by rfl) (by rfl); (focus (intro wx hSw; have r0 := (hSw.cell (p := ⟨w.heap.size, 0, none⟩) HAl).trans rA0; have r1 := (hSw.cell (p := ⟨w.heap.size, 1, none⟩) HAl).trans rA1; have r2 := (hSw.cell (p := ⟨w.heap.size, 2, none⟩) HAl).trans rA2; have s0 := (hSw.cell (p := ⟨X0, 0, none⟩) HXl).trans rX0; have s1 := (hSw.cell (p := ⟨X0, 1, none⟩) HXl).trans rX1; have s2 := (hSw.cell (p := ⟨X0, 2, none⟩) HXl).trans rX2; go_simp; (try with_reducible rfl))); (try simp only [Act.put, List.setIfInBounds_toArray, List.set_cons_zero, List.set_cons_succ])) | (apply ord_skip rfl (by rfl) (by rfl) (fun _ => hBe); (try simp only [Act.put, List.setIfInBounds_toArray, List.set_cons_zero, List.set_cons_succ])))
    refine ord_nil ?_
    clear he HXl HAl rA0 rX0 rA1 rX1 rA2 rX2
    obtain ⟨t7, hnz⟩ : ∃ x, x = wd' := ⟨_, rfl⟩
    subst hnz
    have hb := hBe
    clear hBe
    replace kw := kw.trans (hb.mono kw.size)
    replace bA0 := bA0.all hb
    replace sA0 := Nat.lt_of_lt_of_le sA0 hb.size
    replace bX0 := bX0.all hb
    replace EX0 := metric_below EX0 hb
    replace Eg := ints_below Eg hb
    replace Rw := ints_keep Rw (hb.mono Zt2) (Nat.le_refl _)
    replace Zt2 := Nat.le_trans Zt2 hb.size
    replace Zt3 := Nat.le_trans Zt3 hb.size
    replace Zt4 := Nat.le_trans Zt4 hb.size
    replace Zt5 := Nat.le_trans Zt5 hb.size
    clear hb
    have bA0c0 := bA0.cell 0
    have bA0c1 := bA0.cell 1
    have bA0c2 := bA0.cell 2
    have bX0c0 := bX0.cell 0
    have bX0c1 := bX0.cell 1
    have bX0c2 := bX0.cell 2
    have bX0lt := bX0.lt
    go_wp2_with fail
    clear bA0c0 bA0c1 bA0c2 bX0c0 bX0c1 bX0c2 bX0lt
    refine (metric_mark _ _ x0 _ 1 EX0 (by omega) (by omega) (by omega)).mono ?_
    rintro e t8 ⟨rfl, he, hw⟩
    have hbb := hw.below (B := t2.heap.size) (fun b hf => hf.1) Zt2
    replace kw := kw.trans (hbb.mono Kt2)
    replace bA0 := bA0.below hbb (by omega)
    replace sA0 := Nat.lt_of_lt_of_le sA0 hw.size
    replace bX0 := hw.blk bX0 (fun hf => by have a1 := hf.1; have a2 := hf.2; omega)
    replace Eg := ints_wr Eg hw (fun b h1 h2 => by have a1 := h1.1; have a2 := h1.2; have a3 := h2.1; have a4 := h2.2; omega)
    replace Rw := ints_keep Rw (hbb.mono (by omega)) (Nat.le_refl _)
    replace Zt2 := Nat.le_trans Zt2 hw.size
    replace Zt3 := Nat.le_trans Zt3 hw.size
    replace Zt4 := Nat.le_trans Zt4 hw.size
    replace Zt5 := Nat.le_trans Zt5 hw.size
    replace EX0 := he
    clear hbb hw he
    obtain ⟨kk0, hkk0, hkk0a, hkk0b⟩ : ∃ z : Int, 1 + (metric_sum x0 : Int) = z ∧ 0 ≤ z ∧ z ≤ 4000000 := ⟨_, rfl, by omega, by omega⟩
    rw [hkk0]
    have Hkk0 := hide hkk0
    clear hkk0
    clear EX0
    have bA0c0 := bA0.cell 0
    have bA0c1 := bA0.cell 1
    have bA0c2 := bA0.cell 2
    have bX0c0 := bX0.cell 0
    have bX0c1 := bX0.cell 1
    have bX0c2 := bX0.cell 2
    have bX0lt := bX0.lt
    go_wp2_with fail
    clear bA0c0 bA0c1 bA0c2 bX0c0 bX0c1 bX0c2 bX0lt
    refine (ints_eq _ _ _ y0 y0 (ints_rd Eg) (ints_keep Rw (Below.refl _ _) Zt2) SY).mono ?_
    rintro e t9 ⟨rfl, hb⟩
    simp only [beq_self_eq_true]
    replace kw := kw.trans (hb.mono kw.size)
    replace bA0 := bA0.all hb
    replace sA0 := Nat.lt_of_lt_of_le sA0 hb.size
    replace bX0 := bX0.all hb
    replace Eg := ints_below Eg hb
    replace Rw := ints_keep Rw (hb.mono Zt2) (Nat.le_refl _)
    replace Zt2 := Nat.le_trans Zt2 hb.size
    replace Zt3 := Nat.le_trans Zt3 hb.size
    replace Zt4 := Nat.le_trans Zt4 hb.size
    replace Zt5 := Nat.le_trans Zt5 hb.size
    clear hb
    have bA0c0 := bA0.cell 0
    have bA0c1 := bA0.cell 1
    have bA0c2 := bA0.cell 2
    have bX0c0 := bX0.cell 0
    have bX0c1 := bX0.cell 1
    have bX0c2 := bX0.cell 2
    have bX0lt := bX0.lt
    go_wp2_with fail
    clear bA0c0 bA0c1 bA0c2 bX0c0 bX0c1 bX0c2 bX0lt
    refine (ints_mark _ _ y0 _ 1 Eg (by omega) (by omega) (by omega)).mono ?_
    rintro e t10 ⟨rfl, he, hw⟩
    have hbb := hw.below (B := t4.heap.size) (fun b hf => hf.1) Zt4
    replace kw := kw.trans (hbb.mono Kt4)
    replace bA0 := bA0.below hbb (by omega)
    replace sA0 := Nat.lt_of_lt_of_le sA0 hw.size
    replace bX0 := hw.blk bX0 (fun hf => by have a1 := hf.1; have a2 := hf.2; omega)
    replace Rw := ints_keep Rw (hbb.mono (by omega)) (Nat.le_refl _)
    replace Zt2 := Nat.le_trans Zt2 hw.size
    replace Zt3 := Nat.le_trans Zt3 hw.size
    replace Zt4 := Nat.le_trans Zt4 hw.size
    replace Zt5 := Nat.le_trans Zt5 hw.size
    replace Eg := he
    clear hbb hw he
    obtain ⟨mm, hmm, hmma, hmmb⟩ : ∃ z : Int, 1 + (ints_sum y0 : Int) = z ∧ 0 ≤ z ∧ z ≤ 4000000 := ⟨_, rfl, by omega, by omega⟩
    rw [hmm]
    have Hmm := hide hmm
    clear hmm
    have bA0c0 := bA0.cell 0
    have bA0c1 := bA0.cell 1
    have bA0c2 := bA0.cell 2
    have bX0c0 := bX0.cell 0
    have bX0c1 := bX0.cell 1
    have bX0c2 := bX0.cell 2
    have bX0lt := bX0.lt
    go_wp2_with fail
    clear bA0c0 bA0c1 bA0c2 bX0c0 bX0c1 bX0c2 bX0lt
    refine (ints_heldc _ _ _ 1 (ints_rd Eg) (ints_shmk SY) (by omega) (by omega)).mono ?_
    rw [ints_heldmk1, Hmm.out]
    rintro e t11 ⟨rfl, hb⟩
    replace kw := kw.trans (hb.mono kw.size)
    replace bA0 := bA0.all hb
    replace sA0 := Nat.lt_of_lt_of_le sA0 hb.size
    replace bX0 := bX0.all hb
    replace Eg := ints_below Eg hb
    replace Rw := ints_keep Rw (hb.mono Zt2) (Nat.le_refl _)
    replace Zt2 := Nat.le_trans Zt2 hb.size
    replace Zt3 := Nat.le_trans Zt3 hb.size
    replace Zt4 := Nat.le_trans Zt4 hb.size
    replace Zt5 := Nat.le_trans Zt5 hb.size
    clear hb
    have bA0c0 := bA0.cell 0
    have bA0c1 := bA0.cell 1
    have bA0c2 := bA0.cell 2
    have bX0c0 := bX0.cell 0
    have bX0c1 := bX0.cell 1
    have bX0c2 := bX0.cell 2
    have bX0lt := bX0.lt
    go_wp2_with fail
    clear bA0c0 bA0c1 bA0c2 bX0c0 bX0c1 bX0c2 bX0lt
    refine (metric_to _ _ x0 (metric_keep HA0 kw kw.size) SH0).mono ?_
    rintro e t12 ⟨u, rfl, he, hb⟩
    obtain ⟨Ah0, nh0, ch0, zh0, Dh0, mh0, eh0, rfl, hf⟩ := metric_form (metric_rd he)
    clear hf
    have hbs := hb.size
    replace kw := kw.trans (hb.mono kw.size)
    replace bA0 := bA0.all hb
    replace sA0 := Nat.lt_of_lt_of_le sA0 hb.size
    replace bX0 := bX0.all hb
    replace Eg := ints_below Eg hb
    replace Rw := ints_keep Rw (hb.mono Zt2) (Nat.le_refl _)
    replace Zt2 := Nat.le_trans Zt2 hb.size
    replace Zt3 := Nat.le_trans Zt3 hb.size
    replace Zt4 := Nat.le_trans Zt4 hb.size
    replace Zt5 := Nat.le_trans Zt5 hb.size
    clear hb
    clear hbs
    have Eh0 := he
    clear he
    have bA0c0 := bA0.cell 0
    have bA0c1 := bA0.cell 1
    have bA0c2 := bA0.cell 2
    have bX0c0 := bX0.cell 0
    have bX0c1 := bX0.cell 1
    have bX0c2 := bX0.cell 2
    have bX0lt := bX0.lt
    go_wp2_with fail
    clear bA0c0 bA0c1 bA0c2 bX0c0 bX0c1 bX0c2 bX0lt
    have hcl := (implGI_c t12 _ x0 (metric_rd Eh0) SH0 (hT.bel kw))
    rw [HY0.out, HY1.out] at hcl
    have HCL := hide hcl
    clear hcl
    refine HCL.out.mono ?_
    rintro e t13 ⟨u, rfl, he, hb⟩
    clear HCL
    obtain ⟨Ah, nh, ch, rfl, hf⟩ := ints_form (ints_rd he)
    clear hf
    replace kw := kw.trans (hb.mono kw.size)
    replace bA0 := bA0.all hb
    replace sA0 := Nat.lt_of_lt_of_le sA0 hb.size
    replace bX0 := bX0.all hb
    replace Eg := ints_below Eg hb
    replace Eh0 := metric_below Eh0 hb
    replace Rw := ints_keep Rw (hb.mono Zt2) (Nat.le_refl _)
    replace Zt2 := Nat.le_trans Zt2 hb.size
    replace Zt3 := Nat.le_trans Zt3 hb.size
    replace Zt4 := Nat.le_trans Zt4 hb.size
    replace Zt5 := Nat.le_trans Zt5 hb.size
    clear hb
    have Eh := he
    clear he
    have bA0c0 := bA0.cell 0
    have bA0c1 := bA0.cell 1
    have bA0c2 := bA0.cell 2
    have bX0c0 := bX0.cell 0
    have bX0c1 := bX0.cell 1
    have bX0c2 := bX0.cell 2
    have bX0lt := bX0.lt
    go_wp2_with fail
    clear bA0c0 bA0c1 bA0c2 bX0c0 bX0c1 bX0c2 bX0lt
    refine (ints_eq _ _ _ y0 y0 (ints_rd Eh) (ints_keep Rw (Below.refl _ _) Zt2) SY).mono ?_
    rintro e t14 ⟨rfl, hb⟩
    simp only [beq_self_eq_true]
    replace kw := kw.trans (hb.mono kw.size)
    replace bA0 := bA0.all hb
    replace sA0 := Nat.lt_of_lt_of_le sA0 hb.size
    replace bX0 := bX0.all hb
    replace Eg := ints_below Eg hb
    replace Eh0 := metric_below Eh0 hb
    replace Eh := ints_below Eh hb
    replace Rw := ints_keep Rw (hb.mono Zt2) (Nat.le_refl _)
    replace Zt2 := Nat.le_trans Zt2 hb.size
    replace Zt3 := Nat.le_trans Zt3 hb.size
    replace Zt4 := Nat.le_trans Zt4 hb.size
    replace Zt5 := Nat.le_trans Zt5 hb.size
    clear hb
    have bA0c0 := bA0.cell 0
    have bA0c1 := bA0.cell 1
    have bA0c2 := bA0.cell 2
    have bX0c0 := bX0.cell 0
    have bX0c1 := bX0.cell 1
    have bX0c2 := bX0.cell 2
    have bX0lt := bX0.lt
    go_wp2_with fail
    clear bA0c0 bA0c1 bA0c2 bX0c0 bX0c1 bX0c2 bX0lt
    refine (ints_heldc _ _ _ 1 (ints_rd Eg) (ints_shmk SY) (by omega) (by omega)).mono ?_
    rw [ints_heldmk1, Hmm.out]
    rintro e t15 ⟨rfl, hb⟩
    replace kw := kw.trans (hb.mono kw.size)
    replace bA0 := bA0.all hb
    replace sA0 := Nat.lt_of_lt_of_le sA0 hb.size
    replace bX0 := bX0.all hb
    replace Eg := ints_below Eg hb
    replace Eh0 := metric_below Eh0 hb
    replace Eh := ints_below Eh hb
    replace Rw := ints_keep Rw (hb.mono Zt2) (Nat.le_refl _)
    replace Zt2 := Nat.le_trans Zt2 hb.size
    replace Zt3 := Nat.le_trans Zt3 hb.size
    replace Zt4 := Nat.le_trans Zt4 hb.size
    replace Zt5 := Nat.le_trans Zt5 hb.size
    clear hb
    go_wp2_with fail
    go_ret
    exact ⟨rfl, kw⟩
end Go.Proofs.YtlekbkjkkoefnaaDoor
