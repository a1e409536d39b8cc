
/- GreatestIsotropic of both sides, and its law. AreEquivalentMetrics of both sides, and its law. -/
import Derived.Test.YtbpihnpakolooaaGreatDoorMWz
import Derived.Test.YtbpihnpakolooaaGreatDoorMa
import Derived.Test.YtbpihnpakolooaaGreatDoorX3a
import Derived.Test.YtbpihnpakolooaaGreatDoorXEa
namespace Go.Proofs.YtbpihnpakolooaaGreatDoor
open Go Go.RowKit Grp
set_option linter.unusedSimpArgs false
set_option linter.unusedVariables false
set_option maxHeartbeats 2000000 in
theorem spec_GI_any (w : World) (A : Option Addr) (n c : Nat) (os : List Int) (D : Int) (A' : Option Addr) (n' c' : Nat) (vs : List Int) (h : Sl w w.heap.size A n c os) (h' : Sl w w.heap.size A' n' c' vs) (hn : n ≤ 1048576) (hn' : n' ≤ 1048576) :
  Calls Tryz.prog 26 #[.agg #[.slice A n c, .int .i64 D, .slice A' n' c']] w (MkC w (ifM os D vs (bestL vs.length (isoK os vs))) (codeM os D vs)) := by
 obtain rfl := h'.len
 cases hm : isM os D vs with
 | false =>
  have hC := hide (show codeM os D vs = 1 by unfold codeM; rw [hm]; rfl)
  have hR := hide (show ifM os D vs (bestL vs.length (isoK os vs)) = [] by unfold ifM; rw [hm]; rfl)
  go_enter Tryz.func26, Tryz.ntmps26
  go_wp2_with fail
  obtain ⟨W, hW⟩ : ∃ W, w.alloc (.cells #[.slice A n c, .int .i64 D, .slice A' vs.length c'] 26) = W := ⟨_, rfl⟩
  have hbW : Below w.heap.size w W := by rw [← hW]; exact (by repeat (first | assumption | exact Below.refl _ _ | apply below_drewN | apply Below.drew | apply Below.alloc | apply Below.setCell | omega | (focus (simp; done)) | (focus (simp; omega))))
  have hszW : w.heap.size < W.heap.size := by rw [← hW]; simp
  have hsW := hide (show W.heap.size = w.heap.size + 1 by rw [← hW]; simp)
  have bM : Blk W w.heap.size 26 #[.slice A n c, .int .i64 D, .slice A' vs.length c'] := by rw [← hW]; exact Blk.new _ _ _
  have q0 : W.cell? ⟨w.heap.size, 0, none⟩ = some (.slice A n c) := by rw [← hW]; exact (Blk.new _ _ _).cell 0
  have q1 : W.cell? ⟨w.heap.size, 1, none⟩ = some (.int .i64 D) := by rw [← hW]; exact (Blk.new _ _ _).cell 1
  have q2 : W.cell? ⟨w.heap.size, 2, none⟩ = some (.slice A' vs.length c') := by rw [← hW]; exact (Blk.new _ _ _).cell 2
  rw [hW]
  clear hW
  have hs := (h.below hbW).more (Nat.le_of_lt hszW)
  have hs' := (h'.below hbW).more (Nat.le_of_lt hszW)
  go_wp2_with fail
  refine (l10Is_v false _ _ _ _ _ _ _ _ _ _ hs hs' hn hn' hm).mono ?_
  rintro e w2 ⟨rfl, hb2⟩
  go_wp2_with fail
  refine bodyPost_ret (v := .tuple #[.slice none 0 0, .int .i64 1]) (by simp [results, Tryz.results26, go_sem]) rfl ?_
  exact ⟨_, by rw [hC.out], by rw [hR.out]; exact Ow.nil _ _, hbW.trans (hb2.mono (Nat.le_of_lt hszW))⟩
 | true =>
  have hM := isM_iff.1 hm
  have hC := hide (show codeM os D vs = 0 by unfold codeM; rw [hm]; rfl)
  have hR := hide (show ifM os D vs (bestL vs.length (isoK os vs)) = bestL vs.length (isoK os vs) by unfold ifM; rw [hm]; rfl)
  have hok := hM.ok
  have hG := hok.g
  have N16 := hok.lt
  have HN := hide hok.len.symm
  have HRG := hide (show ∀ x ∈ isoK os vs, 0 ≤ x ∧ x < 2 ^ vs.length ∧ x < 65536 from fun x hx => sgK_rng N16 x (isoK_sub x hx))
  have HL := hide (show (isoK os vs).length ≤ 65536 from Nat.le_trans (isoK_len os vs) (sgK_len N16))
  have HBL := hide (bestL_len vs.length)
  have HML := hide (fun m => mems_len vs.length m)
  go_enter Tryz.func26, Tryz.ntmps26
  go_wp2_with fail
  obtain ⟨W, hW⟩ : ∃ W, w.alloc (.cells #[.slice A n c, .int .i64 D, .slice A' vs.length c'] 26) = W := ⟨_, rfl⟩
  have hbW : Below w.heap.size w W := by rw [← hW]; exact (by repeat (first | assumption | exact Below.refl _ _ | apply below_drewN | apply Below.drew | apply Below.alloc | apply Below.setCell | omega | (focus (simp; done)) | (focus (simp; omega))))
  have hszW : w.heap.size < W.heap.size := by rw [← hW]; simp
  have hsW := hide (show W.heap.size = w.heap.size + 1 by rw [← hW]; simp)
  have bM : Blk W w.heap.size 26 #[.slice A n c, .int .i64 D, .slice A' vs.length c'] := by rw [← hW]; exact Blk.new _ _ _
  have q0 : W.cell? ⟨w.heap.size, 0, none⟩ = some (.slice A n c) := by rw [← hW]; exact (Blk.new _ _ _).cell 0
  have q1 : W.cell? ⟨w.heap.size, 1, none⟩ = some (.int .i64 D) := by rw [← hW]; exact (Blk.new _ _ _).cell 1
  have q2 : W.cell? ⟨w.heap.size, 2, none⟩ = some (.slice A' vs.length c') := by rw [← hW]; exact (Blk.new _ _ _).cell 2
  rw [hW]
  clear hW
  have hs := (h.below hbW).more (Nat.le_of_lt hszW)
  have hs' := (h'.below hbW).more (Nat.le_of_lt hszW)
  go_wp2_with fail
  refine (l10Is_v true _ _ _ _ _ _ _ _ _ _ hs hs' hn hn' hm).mono ?_
  rintro e w2 ⟨rfl, hb2⟩
  have r0 := (hb2.cell (p := ⟨w.heap.size, 0, none⟩) hszW).trans q0
  have r1 := (hb2.cell (p := ⟨w.heap.size, 1, none⟩) hszW).trans q1
  have r2 := (hb2.cell (p := ⟨w.heap.size, 2, none⟩) hszW).trans q2
  have k1 := (hs.below hb2).more hb2.size
  have k2 := (hs'.below hb2).more hb2.size
  have hz2 : w.heap.size < w2.heap.size := Nat.lt_of_lt_of_le hszW hb2.size
  have hbb := hbW.trans (hb2.mono (Nat.le_of_lt hszW))
  clear hs hs' hb2
  go_wp2_with fail
  refine (l11IsoMasks_any _ _ _ _ os D _ _ _ vs k1 k2 hok).mono ?_
  rintro e w3 ⟨v, rfl, hV, hb3⟩
  have p0 := (hb3.cell (p := ⟨w.heap.size, 0, none⟩) hz2).trans r0
  have p1 := (hb3.cell (p := ⟨w.heap.size, 1, none⟩) hz2).trans r1
  have p2 := (hb3.cell (p := ⟨w.heap.size, 2, none⟩) hz2).trans r2
  have hz3 : w.heap.size < w3.heap.size := Nat.lt_of_lt_of_le hz2 hb3.size
  have hO1 : Ow (w3.alloc (.cells #[] 2)) w3.heap.size (.slice (some ⟨w3.heap.size, 0, none⟩) 0 0) [] := Ow.made' (xs := []) w3 #[] w3.heap.size 0 rfl rfl (Nat.le_refl _) rfl (by unfold maxLen; omega)
  have hB2 : Below w3.heap.size w3 (w3.alloc (.cells #[] 2)) := (Below.refl _ _).alloc (Nat.le_refl _) _
  have HR6 := hide (show ∀ x ∈ isoK os vs, i64ok x from fun x hx => by have := HRG.out x hx; exact ⟨by omega, by omega⟩)
  obtain ⟨sA, sc, rfl, hSa⟩ := hV.sl HR6.out
  have hsl : ∀ wd, Below w3.heap.size w3 wd → Sl wd wd.heap.size A n c os := fun wd h9 => ((k1.below hb3).more hb3.size).below h9 |>.more h9.size
  clear r0 r1 r2 hV
  obtain ⟨ml, hml⟩ : ∃ ml, isoK os vs = ml := ⟨_, rfl⟩
  have HQ := hide hml
  rw [hml] at hSa HL HRG ⊢
  clear hml HR6
  obtain ⟨al, hal⟩ : ∃ al, al = ml.length := ⟨_, rfl⟩
  have HAL := hide hal
  have hLas := HL.out
  rw [← hal] at hSa hLas ⊢
  clear hal
  go_wp2_with fail
  go_loopw [5, 6] (fun o i wr => ∃ (k : Nat) (vv : Value), k ≤ al ∧ i = .int .i64 k ∧ vv = o ∧ Ow wr w3.heap.size vv (bestL vs.length (ml.take k)) ∧ Below w3.heap.size w3 wr) (fun _ i _ => al - (intOf i).toNat)
  case atStart => exact ⟨0, _, by omega, rfl, rfl, hO1, hB2⟩
  case round =>
   clear hO1 hB2
   obtain ⟨k, vv, hk, rfl, rfl, hO, hBe⟩ := hrel
   by_cases hlt : k < al
   ·obtain ⟨b, off, rfl, hb, hc⟩ := hSa.at_ (by omega)
    have c1 := (hBe.cell (p := ⟨b, off + k, none⟩) hb).trans (hc k hlt)
    clear hc
    have hlk : k < ml.length := by rw [← HAL.out]; exact hlt
    have hr := HRG.out _ (gi_mem hlk)
    obtain ⟨m, hm⟩ := Int.eq_ofNat_of_zero_le hr.1
    have HS := hide (bestL_snoc (N := vs.length) hlk)
    rw [hm] at c1 hr HS
    rw [Int.toNat_natCast] at HS
    have hm6 : m < 65536 := by omega
    have hml2 := HML.out m
    have hbl := HBL.out (ml.take k)
    have hel := fun W' => l11Members_any W' vs.length m N16 hm6
    have HRi := hide (show ∀ x ∈ mems vs.length m, i64ok x from fun x hx => by have := mems_rng x hx; exact ⟨by omega, by omega⟩)
    obtain ⟨mm, hmm⟩ : ∃ mm, mems vs.length m = mm := ⟨_, rfl⟩
    rw [hmm] at HS hml2 hel HRi
    obtain ⟨bb, hbb2⟩ : ∃ bb, bestL vs.length (ml.take k) = bb := ⟨_, rfl⟩
    rw [hbb2] at HS hbl hO
    obtain ⟨vA, vc, rfl⟩ := hO.val
    clear hlk hm hr hmm hbb2
    have hB0 := hBe
    have y0 := (hBe.cell (p := ⟨w.heap.size, 0, none⟩) hz3).trans p0
    have y1 := (hBe.cell (p := ⟨w.heap.size, 1, none⟩) hz3).trans p1
    have y2 := (hBe.cell (p := ⟨w.heap.size, 2, none⟩) hz3).trans p2
    have hbr : b < wr.heap.size := Nat.lt_of_lt_of_le hb hBe.size
    have hwr : w.heap.size < wr.heap.size := Nat.lt_of_lt_of_le hz3 hBe.size
    go_upto_region 7 with fail
    refine wp_region_be [0, 1, 3, 4, 5, 6, 2, 7, 8] 8 wr.heap.size wr (by kernel_rfl) (by kernel_rfl) (by kernel_rfl) (fun _ _ _ _ _ h => h) (Below.refl _ _) (fun wd hBe => ?_)
    repeat (first | (apply ord_tk rfl (by rfl) (by rfl) (by rfl); (focus (intro wx hSw; have r0 := (hSw.cell (p := ⟨w.heap.size, 0, none⟩) hwr).trans y0; have r1 := (hSw.cell (p := ⟨w.heap.size, 1, none⟩) hwr).trans y1; have r2 := (hSw.cell (p := ⟨w.heap.size, 2, none⟩) hwr).trans y2; have r3 := (hSw.cell (p := ⟨b, off + k, none⟩) hbr).trans c1; go_simp; (try with_reducible rfl))); (try simp only [Act.put, List.setIfInBounds_toArray, List.set_cons_zero, List.set_cons_succ])) | (apply ord_skip rfl (by rfl) (by rfl) (fun _ => hBe); (try simp only [Act.put, List.setIfInBounds_toArray, List.set_cons_zero, List.set_cons_succ])))
    refine ord_do rfl (by rfl) (by rfl) (fun K hK => ?_)
    go_simp
    refine (l10Size_any _ _ _ _ _ _ (hsl _ (hB0.trans (hBe.mono hB0.size))) hG).mono ?_
    rw [HN.out]
    rintro e w4 ⟨rfl, m4, hw4⟩
    replace hBe : Below wr.heap.size wr w4 := by rw [hw4]; exact below_drewN hBe m4
    clear hw4
    refine hK.out _ _ (fun _ => hBe) ?_
    (try simp only [Act.put, List.setIfInBounds_toArray, List.set_cons_zero, List.set_cons_succ])
    clear hK K
    repeat (first | (apply ord_tk rfl (by rfl) (by rfl) (by rfl); (focus (intro wx hSw; have r0 := (hSw.cell (p := ⟨w.heap.size, 0, none⟩) hwr).trans y0; have r1 := (hSw.cell (p := ⟨w.heap.size, 1, none⟩) hwr).trans y1; have r2 := (hSw.cell (p := ⟨w.heap.size, 2, none⟩) hwr).trans y2; have r3 := (hSw.cell (p := ⟨b, off + k, none⟩) hbr).trans c1; go_simp; (try with_reducible rfl))); (try simp only [Act.put, List.setIfInBounds_toArray, List.set_cons_zero, List.set_cons_succ])) | (apply ord_skip rfl (by rfl) (by rfl) (fun _ => hBe); (try simp only [Act.put, List.setIfInBounds_toArray, List.set_cons_zero, List.set_cons_succ])))
    refine ord_do rfl (by rfl) (by rfl) (fun K hK => ?_)
    go_simp
    refine (hel _).mono ?_
    rintro e w5 ⟨v5, rfl, hV5, hb5⟩
    have hz5 := hBe.size
    have hz6 := hB0.size
    replace hBe := hBe.trans (hb5.mono hBe.size)
    refine hK.out _ _ (fun _ => hBe) ?_
    (try simp only [Act.put, List.setIfInBounds_toArray, List.set_cons_zero, List.set_cons_succ])
    clear hK K
    obtain ⟨mA, mc, rfl, hSm⟩ := hV5.sl HRi.out
    repeat (first | (apply ord_tk rfl (by rfl) (by rfl) (by rfl); (focus (intro wx hSw; have r0 := (hSw.cell (p := ⟨w.heap.size, 0, none⟩) hwr).trans y0; have r1 := (hSw.cell (p := ⟨w.heap.size, 1, none⟩) hwr).trans y1; have r2 := (hSw.cell (p := ⟨w.heap.size, 2, none⟩) hwr).trans y2; have r3 := (hSw.cell (p := ⟨b, off + k, none⟩) hbr).trans c1; go_simp; (try with_reducible rfl))); (try simp only [Act.put, List.setIfInBounds_toArray, List.set_cons_zero, List.set_cons_succ])) | (apply ord_skip rfl (by rfl) (by rfl) (fun _ => hBe); (try simp only [Act.put, List.setIfInBounds_toArray, List.set_cons_zero, List.set_cons_succ])))
    refine ord_do rfl (by rfl) (by rfl) (fun K hK => ?_)
    go_simp
    refine hK.out _ _ (fun h => absurd h (by omega)) ?_
    (try simp only [Act.put, List.setIfInBounds_toArray, List.set_cons_zero, List.set_cons_succ])
    clear hK K
    refine ord_nil ?_
    replace hO := hO.below hBe
    replace hBe := hB0.trans (hBe.mono hB0.size)
    clear hB0 y0 y1 y2 hb5 hel c1
    by_cases hgt : bb.length < mm.length
    ·rw [if_pos hgt] at HS
     have hgt' : (bb.length : Int) < (mm.length : Int) := by omega
     go_wp2_with fail
     go_roundw
     case rel => exact ⟨k + 1, _, by omega, by go_num, rfl, by rw [HS.out]; exact hV5.less (by omega), hBe⟩
     case measure => simp [intOf] <;> omega
    ·rw [if_neg hgt] at HS
     have hgt' : ¬ (bb.length : Int) < (mm.length : Int) := by omega
     go_wp2_with fail
     go_roundw
     case rel => exact ⟨k + 1, _, by omega, by go_num, rfl, by rw [HS.out]; exact hO, hBe⟩
     case measure => simp [intOf] <;> omega
   ·obtain rfl : k = al := by omega
    rw [List.take_of_length_le (by rw [← HAL.out]; exact Nat.le_refl _)] at hO
    go_wp2_with fail
    refine bodyPost_ret (v := .tuple #[vv, .int .i64 0]) (by simp [results, Tryz.results26, go_sem]) rfl ?_
    exact ⟨_, by rw [hC.out], by rw [hR.out, HQ.out]; exact hO.less (Nat.le_of_lt hz3), hbb.trans ((hb3.trans (hBe.mono hb3.size)).mono (Nat.le_of_lt hz2))⟩
set_option maxHeartbeats 2000000 in
theorem impl_GI_any (w : World) (A : Option Addr) (n c : Nat) (os : List Int) (D : Int) (A' : Option Addr) (n' c' : Nat) (vs : List Int) (h : Sl w w.heap.size A n c os) (h' : Sl w w.heap.size A' n' c' vs) (hn : n ≤ 1048576) (hn' : n' ≤ 1048576) (hT : Tb w) :
  Calls Tryz.prog 25 #[.agg #[.slice A n c, .int .i64 D, .slice A' n' c']] w (MkC w (ifM os D vs (bestL vs.length (isoK os vs))) (codeM os D vs)) := by
 obtain rfl := h'.len
 cases hm : isM os D vs with
 | false =>
  have hC := hide (show codeM os D vs = 1 by unfold codeM; rw [hm]; rfl)
  have hR := hide (show ifM os D vs (bestL vs.length (isoK os vs)) = [] by unfold ifM; rw [hm]; rfl)
  go_enter Tryz.func25, Tryz.ntmps25
  go_wp2_with fail
  obtain ⟨W, hW⟩ : ∃ W, w.alloc (.cells #[.slice A n c, .int .i64 D, .slice A' vs.length c'] 26) = W := ⟨_, rfl⟩
  have hbW : Below w.heap.size w W := by rw [← hW]; exact (by repeat (first | assumption | exact Below.refl _ _ | apply below_drewN | apply Below.drew | apply Below.alloc | apply Below.setCell | omega | (focus (simp; done)) | (focus (simp; omega))))
  have hszW : w.heap.size < W.heap.size := by rw [← hW]; simp
  have hsW := hide (show W.heap.size = w.heap.size + 1 by rw [← hW]; simp)
  have bM : Blk W w.heap.size 26 #[.slice A n c, .int .i64 D, .slice A' vs.length c'] := by rw [← hW]; exact Blk.new _ _ _
  have q0 : W.cell? ⟨w.heap.size, 0, none⟩ = some (.slice A n c) := by rw [← hW]; exact (Blk.new _ _ _).cell 0
  have q1 : W.cell? ⟨w.heap.size, 1, none⟩ = some (.int .i64 D) := by rw [← hW]; exact (Blk.new _ _ _).cell 1
  have q2 : W.cell? ⟨w.heap.size, 2, none⟩ = some (.slice A' vs.length c') := by rw [← hW]; exact (Blk.new _ _ _).cell 2
  rw [hW]
  clear hW
  have hs := (h.below hbW).more (Nat.le_of_lt hszW)
  have hs' := (h'.below hbW).more (Nat.le_of_lt hszW)
  go_wp2_with fail
  refine (implIs_v false _ _ _ _ _ _ _ _ _ _ hs hs' hn hn' hm).mono ?_
  rintro e w2 ⟨rfl, hb2⟩
  go_wp2_with fail
  refine bodyPost_ret (v := .tuple #[.slice none 0 0, .int .i64 1]) (by simp [results, Tryz.results25, go_sem]) rfl ?_
  exact ⟨_, by rw [hC.out], by rw [hR.out]; exact Ow.nil _ _, hbW.trans (hb2.mono (Nat.le_of_lt hszW))⟩
 | true =>
  have hM := isM_iff.1 hm
  have hC := hide (show codeM os D vs = 0 by unfold codeM; rw [hm]; rfl)
  have hR := hide (show ifM os D vs (bestL vs.length (isoK os vs)) = bestL vs.length (isoK os vs) by unfold ifM; rw [hm]; rfl)
  have hok := hM.ok
  have hG := hok.g
  have N16 := hok.lt
  have HN := hide hok.len.symm
  have HRG := hide (show ∀ x ∈ isoK os vs, 0 ≤ x ∧ x < 2 ^ vs.length ∧ x < 65536 from fun x hx => sgK_rng N16 x (isoK_sub x hx))
  have HL := hide (show (isoK os vs).length ≤ 65536 from Nat.le_trans (isoK_len os vs) (sgK_len N16))
  have HBL := hide (bestL_len vs.length)
  have HML := hide (fun m => mems_len vs.length m)
  go_enter Tryz.func25, Tryz.ntmps25
  go_wp2_with fail
  obtain ⟨W, hW⟩ : ∃ W, w.alloc (.cells #[.slice A n c, .int .i64 D, .slice A' vs.length c'] 26) = W := ⟨_, rfl⟩
  have hbW : Below w.heap.size w W := by rw [← hW]; exact (by repeat (first | assumption | exact Below.refl _ _ | apply below_drewN | apply Below.drew | apply Below.alloc | apply Below.setCell | omega | (focus (simp; done)) | (focus (simp; omega))))
  have hszW : w.heap.size < W.heap.size := by rw [← hW]; simp
  have hsW := hide (show W.heap.size = w.heap.size + 1 by rw [← hW]; simp)
  have bM : Blk W w.heap.size 26 #[.slice A n c, .int .i64 D, .slice A' vs.length c'] := by rw [← hW]; exact Blk.new _ _ _
  have q0 : W.cell? ⟨w.heap.size, 0, none⟩ = some (.slice A n c) := by rw [← hW]; exact (Blk.new _ _ _).cell 0
  have q1 : W.cell? ⟨w.heap.size, 1, none⟩ = some (.int .i64 D) := by rw [← hW]; exact (Blk.new _ _ _).cell 1
  have q2 : W.cell? ⟨w.heap.size, 2, none⟩ = some (.slice A' vs.length c') := by rw [← hW]; exact (Blk.new _ _ _).cell 2
  rw [hW]
  clear hW
  have hs := (h.below hbW).more (Nat.le_of_lt hszW)
  have hs' := (h'.below hbW).more (Nat.le_of_lt hszW)
  go_wp2_with fail
  refine (implIs_v true _ _ _ _ _ _ _ _ _ _ hs hs' hn hn' hm).mono ?_
  rintro e w2 ⟨rfl, hb2⟩
  have r0 := (hb2.cell (p := ⟨w.heap.size, 0, none⟩) hszW).trans q0
  have r1 := (hb2.cell (p := ⟨w.heap.size, 1, none⟩) hszW).trans q1
  have r2 := (hb2.cell (p := ⟨w.heap.size, 2, none⟩) hszW).trans q2
  have k1 := (hs.below hb2).more hb2.size
  have k2 := (hs'.below hb2).more hb2.size
  have hz2 : w.heap.size < w2.heap.size := Nat.lt_of_lt_of_le hszW hb2.size
  have hbb := hbW.trans (hb2.mono (Nat.le_of_lt hszW))
  clear hs hs' hb2
  have c0 := (((Below.refl w2.heap.size w2).alloc (Nat.le_refl _) (.cells #[] 2)).cell (p := ⟨w.heap.size, 0, none⟩) hz2).trans r0
  have c1 := (((Below.refl w2.heap.size w2).alloc (Nat.le_refl _) (.cells #[] 2)).cell (p := ⟨w.heap.size, 1, none⟩) hz2).trans r1
  have c2 := (((Below.refl w2.heap.size w2).alloc (Nat.le_refl _) (.cells #[] 2)).cell (p := ⟨w.heap.size, 2, none⟩) hz2).trans r2
  have hB1 : Below w2.heap.size w2 (w2.alloc (.cells #[] 2)) := (Below.refl _ _).alloc (Nat.le_refl _) _
  have hO1 : Ow (w2.alloc (.cells #[] 2)) w2.heap.size (.slice (some ⟨w2.heap.size, 0, none⟩) 0 0) [] := Ow.made' (xs := []) w2 #[] w2.heap.size 0 rfl rfl (Nat.le_refl _) rfl (by unfold maxLen; omega)
  go_wp2_with fail
  refine (isotropicMasks_any _ _ _ _ os D _ _ _ vs ((k1.below hB1).more hB1.size) ((k2.below hB1).more hB1.size) hok ((hT.bel hbb).bel hB1)).mono ?_
  rintro e w3 ⟨v, rfl, hV, hb3⟩
  replace hO1 := hO1.below hb3
  replace hB1 := hB1.trans (hb3.mono hB1.size)
  have HR6 := hide (show ∀ x ∈ isoK os vs, i64ok x from fun x hx => by have := HRG.out x hx; exact ⟨by omega, by omega⟩)
  obtain ⟨sA, sc, rfl, hSa⟩ := hV.sl HR6.out
  have hTB := fun wd (h9 : Below w3.heap.size w3 wd) => (((hT.bel hbb).bel hB1).bel h9)
  clear hb3 c0 c1 c2 r0 r1 r2 hV
  obtain ⟨ml, hml⟩ : ∃ ml, isoK os vs = ml := ⟨_, rfl⟩
  have HQ := hide hml
  rw [hml] at hSa HL HRG ⊢
  clear hml HR6
  obtain ⟨al, hal⟩ : ∃ al, al = ml.length := ⟨_, rfl⟩
  have HAL := hide hal
  have hLas := HL.out
  rw [← hal] at hSa hLas ⊢
  clear hal
  go_wp2_with fail
  go_loopw [4, 15] (fun o i wr => ∃ (k : Nat) (vv : Value), k ≤ al ∧ i = .int .i64 k ∧ vv = o ∧ Ow wr w2.heap.size vv (bestL vs.length (ml.take k)) ∧ Below w3.heap.size w3 wr) (fun _ i _ => al - (intOf i).toNat)
  case atStart => exact ⟨0, _, by omega, rfl, rfl, hO1, Below.refl _ _⟩
  case round =>
   clear hO1
   obtain ⟨k, vv, hk, rfl, rfl, hO, hBe⟩ := hrel
   have hBz := hB1.size
   by_cases hlt : k < al
   ·obtain ⟨b, off, rfl, hb, hc⟩ := hSa.at_ (by omega)
    have c1 := (hBe.cell (p := ⟨b, off + k, none⟩) hb).trans (hc k hlt)
    clear hc
    have hlk : k < ml.length := by rw [← HAL.out]; exact hlt
    have hr := HRG.out _ (gi_mem hlk)
    obtain ⟨m, hm⟩ := Int.eq_ofNat_of_zero_le hr.1
    have HS := hide (bestL_snoc (N := vs.length) hlk)
    rw [hm] at c1 hr HS
    rw [Int.toNat_natCast] at HS
    have hm2 : m < 2 ^ vs.length := pow_cast hr.2.1
    have hml2 := HML.out m
    have hbl := HBL.out (ml.take k)
    have hel := fun W' (h9 : Tb W') => elementsOf_any W' vs.length m N16 hm2 h9
    have HRi := hide (show ∀ x ∈ mems vs.length m, i64ok x from fun x hx => by have := mems_rng x hx; exact ⟨by omega, by omega⟩)
    obtain ⟨mm, hmm⟩ : ∃ mm, mems vs.length m = mm := ⟨_, rfl⟩
    rw [hmm] at HS hml2 hel HRi
    obtain ⟨bb, hbb2⟩ : ∃ bb, bestL vs.length (ml.take k) = bb := ⟨_, rfl⟩
    rw [hbb2] at HS hbl hO
    obtain ⟨vA, vc, rfl⟩ := hO.val
    clear hlk hm hr hm2 hmm hbb2
    go_wp2_with fail
    refine (hel _ (hTB _ hBe)).mono ?_
    rintro e w5 ⟨v5, rfl, hV5, hb5⟩
    have hz5 := hBe.size
    replace hO := hO.below hb5
    replace hBe := hBe.trans (hb5.mono hBe.size)
    obtain ⟨mA, mc, rfl, hSm⟩ := hV5.sl HRi.out
    clear hb5 hel c1
    by_cases hgt : bb.length < mm.length
    ·rw [if_pos hgt] at HS
     have hgt' : (bb.length : Int) < (mm.length : Int) := by omega
     go_wp2_with fail
     go_roundw
     case rel => exact ⟨k + 1, _, by omega, by go_num, rfl, by rw [HS.out]; exact hV5.less (by omega), hBe⟩
     case measure => simp [intOf] <;> omega
    ·rw [if_neg hgt] at HS
     have hgt' : ¬ (bb.length : Int) < (mm.length : Int) := by omega
     go_wp2_with fail
     go_roundw
     case rel => exact ⟨k + 1, _, by omega, by go_num, rfl, by rw [HS.out]; exact hO, hBe⟩
     case measure => simp [intOf] <;> omega
   ·obtain rfl : k = al := by omega
    rw [List.take_of_length_le (by rw [← HAL.out]; exact Nat.le_refl _)] at hO
    go_wp2_with fail
    refine bodyPost_ret (v := .tuple #[vv, .int .i64 0]) (by simp [results, Tryz.results25, go_sem]) rfl ?_
    exact ⟨_, by rw [hC.out], by rw [hR.out, HQ.out]; exact hO.less (Nat.le_of_lt hz2), hbb.trans ((hB1.trans (hBe.mono hBz)).mono (Nat.le_of_lt hz2))⟩
theorem isM_ok0 {os vs : List Int} {D : Int} (h : IsM os D vs) : Ok0 os D vs := ⟨h.ok.g.l4, fun m hm => ⟨h.ok.g.m2 m hm, h.ok.g.m16 m hm⟩, h.ok.g.p16, h.ok.d1, h.ok.d2, by have := h.ord; unfold ordB at this; simp at this; omega, h.ok.len, h.ok.rng⟩
theorem emod_w {X Y q Z : Int} (h : X = Y + q * Z) : X % q = Y % q := by rw [h, Int.add_mul_emod_self_left]
theorem neg_em (a D : Int) : (-(a % D)) % D = (-a) % D := by
 refine emod_w (Z := a / D) ?_
 have := Int.emod_add_mul_ediv a D
 generalize D * (a / D) = u at *
 omega
theorem negL_vl (D : Int) (vs : List Int) (x : Int) : Vl (negL D vs) x = (-(Vl vs x)) % D := by
 unfold Vl negL gi
 rw [List.getD_eq_getElem?_getD, List.getD_eq_getElem?_getD, List.getElem?_map]
 cases vs[x.toNat]? <;> simp
theorem negL_pr (os : List Int) (D : Int) (vs : List Int) (x y : Int) : Pr os D (negL D vs) x y = (-(Pr os D vs x y)) % D := by
 unfold Pr
 rw [negL_vl, negL_vl, negL_vl, neg_em]
 have a1 := Int.emod_add_mul_ediv (-(Vl vs (Ar os x y))) D
 have a2 := Int.emod_add_mul_ediv (-(Vl vs x)) D
 have a3 := Int.emod_add_mul_ediv (-(Vl vs y)) D
 refine emod_w (Z := -(Vl vs x) / D + -(Vl vs y) / D - -(Vl vs (Ar os x y)) / D) ?_
 grind
theorem neg_isM {os vs : List Int} {D : Int} (h : IsM os D vs) : IsM os D (negL D vs) := by
 have hd := h.ok.d1
 refine ⟨⟨h.ok.g, h.ok.d1, h.ok.d2, by rw [negL_len]; exact h.ok.len, fun v hv => ?_⟩, h.ord, ?_, fun x hx => ?_, fun x y z hx hy hz => ?_⟩
 ·obtain ⟨u, _, rfl⟩ := List.mem_map.1 hv
  exact ⟨Int.emod_nonneg _ (by omega), Int.emod_lt_of_pos _ (by omega)⟩
 ·have := negL_vl D vs 0
  unfold Vl at this
  simp only [Int.toNat_zero] at this
  rw [this, h.zero]; simp
 ·rw [negL_vl, negL_vl, h.neg x hx]
 ·rw [negL_pr, negL_pr, negL_pr, h.bil x y z hx hy hz, neg_em, ← Int.add_emod]
  congr 1
  omega
def sD (D1 D2 : Nat) : Nat := D1 / Nat.gcd D1 D2 * D2
theorem sumQ_at {D1 D2 : Nat} (h1 : 55440 % D1 = 0) (h2 : 55440 % D2 = 0) (p1 : 1 ≤ D1) (p2 : 1 ≤ D2) : SumQ D1 D2 (Nat.gcd D1 D2) (D1 / Nat.gcd D1 D2) (sD D1 D2) (sD D1 D2 / D1) (sD D1 D2 / D2) := by
 obtain ⟨q, e, D, e1, e2, h⟩ := sumQ h1 h2 p1 p2
 have k1 := h.gcd
 have k2 := h.div
 have k3 := h.mul
 have k4 := h.d1
 have k5 := h.d2
 subst k1 k2 k3 k4 k5
 exact h
theorem cat_ok {os1 vs1 os2 vs2 : List Int} {D1 D2 q e D e1 e2 : Nat} (h1 : OkM os1 D1 vs1) (h2 : OkM os2 D2 vs2) (hQ : SumQ D1 D2 q e D e1 e2) (hP : prodL os1 * prodL os2 ≤ 16) (hL : os1.length + os2.length ≤ 4) :
  OkM (os1 ++ os2) D (sumL D e1 e2 vs1 vs2) := by
 have hb := hQ.b
 have hb1 := hQ.b1
 refine ⟨okG_iff.1 ?_, by omega, by omega, ?_, fun v hv => ?_⟩
 ·have g1 := okG_iff.2 h1.g
  have g2 := okG_iff.2 h2.g
  unfold okG at g1 g2 ⊢
  obtain ⟨a1, a2, a3, a4⟩ := of_decide_eq_true g1
  obtain ⟨b1, b2, b3, b4⟩ := of_decide_eq_true g2
  refine decide_eq_true ⟨by rw [List.length_append]; omega, by rw [List.length_append]; omega, fun m hm => ?_, by rw [prodL_append]; exact hP⟩
  rcases List.mem_append.1 hm with hm | hm
  ·exact a3 m hm
  ·exact b3 m hm
 ·rw [sumL_len, prodL_append, Int.natCast_mul, h1.len, h2.len]
 ·obtain ⟨a, _, ha⟩ := List.mem_flatMap.1 hv
  obtain ⟨b, _, rfl⟩ := List.mem_map.1 ha
  exact ⟨Int.emod_nonneg _ (by omega), Int.emod_lt_of_pos _ (by omega)⟩
def AeOk (os1 : List Int) (D1 : Int) (vs1 os2 : List Int) (D2 : Int) (vs2 : List Int) : Prop := IsM os1 D1 vs1 ∧ IsM os2 D2 vs2 ∧ prodL os1 * prodL os2 ≤ 16 ∧ os1.length + os2.length ≤ 4
noncomputable def aeL (os1 : List Int) (D1 : Nat) (vs1 os2 : List Int) (D2 : Nat) (vs2 : List Int) : List Int := lagK (os1 ++ os2) (sD D1 D2 : Nat) (sumL (sD D1 D2) (sD D1 D2 / D1) (sD D1 D2 / D2) vs1 (negL (D2 : Int) vs2))
open Classical in
noncomputable def aeB (os1 : List Int) (D1 : Int) (vs1 os2 : List Int) (D2 : Int) (vs2 : List Int) : Bool := if AeOk os1 D1 vs1 os2 D2 vs2 then decide (0 < (aeL os1 D1.toNat vs1 os2 D2.toNat vs2).length) else false
open Classical in
noncomputable def aeC (os1 : List Int) (D1 : Int) (vs1 os2 : List Int) (D2 : Int) (vs2 : List Int) : Int := if AeOk os1 D1 vs1 os2 D2 vs2 then 0 else noC os1 D1 vs1 os2 D2 vs2
theorem aeL_sub {os1 vs1 os2 vs2 : List Int} {D1 D2 : Nat} (h : OkM (os1 ++ os2) (sD D1 D2 : Nat) (sumL (sD D1 D2) (sD D1 D2 / D1) (sD D1 D2 / D2) vs1 (negL (D2 : Int) vs2))) : (aeL os1 D1 vs1 os2 D2 vs2).length ≤ 65536 ∧ ∀ x ∈ aeL os1 D1 vs1 os2 D2 vs2, i64ok x := by
 refine ⟨Nat.le_trans (List.length_filter_le _ _) (Nat.le_trans (isoK_len _ _) (sgK_len h.lt)), fun x hx => ?_⟩
 have := sgK_rng h.lt x (lagK_sub x hx)
 exact ⟨by omega, by omega⟩
set_option maxHeartbeats 8000000 in
theorem impl_AE_any (w : World) (A1 : Option Addr) (n1 c1 : Nat) (os1 : List Int) (D1 : Int) (B1 : Option Addr) (m1 k1 : Nat) (vs1 : List Int) (A2 : Option Addr) (n2 c2 : Nat) (os2 : List Int) (D2 : Int) (B2 : Option Addr) (m2 k2 : Nat) (vs2 : List Int)
  (h1 : Sl w w.heap.size A1 n1 c1 os1) (g1 : Sl w w.heap.size B1 m1 k1 vs1) (h2 : Sl w w.heap.size A2 n2 c2 os2) (g2 : Sl w w.heap.size B2 m2 k2 vs2) (hn1 : n1 ≤ 1048576) (hm1 : m1 ≤ 1048576) (hn2 : n2 ≤ 1048576) (hm2 : m2 ≤ 1048576) (hT : Tb w) :
  Calls Tryz.prog 33 #[.agg #[.slice A1 n1 c1, .int .i64 D1, .slice B1 m1 k1], .agg #[.slice A2 n2 c2, .int .i64 D2, .slice B2 m2 k2]] w (ReB w (aeB os1 D1 vs1 os2 D2 vs2) (aeC os1 D1 vs1 os2 D2 vs2)) := by
 obtain rfl := h1.len
 obtain rfl := g1.len
 obtain rfl := h2.len
 obtain rfl := g2.len
 cases i1 : isM os1 D1 vs1 with
 | false =>
  have hno : ¬ AeOk os1 D1 vs1 os2 D2 vs2 := fun h => by rw [isM_t h.1] at i1; cases i1
  have hC := hide (show aeC os1 D1 vs1 os2 D2 vs2 = 1 by unfold aeC; rw [if_neg hno]; unfold noC; rw [i1]; rfl)
  have hR := hide (show aeB os1 D1 vs1 os2 D2 vs2 = false by unfold aeB; rw [if_neg hno])
  clear hno
  go_enter Tryz.func33, Tryz.ntmps33
  go_wp2_with fail
  obtain ⟨W, hW⟩ : ∃ W, (w.alloc (.cells #[.slice A1 os1.length c1, .int .i64 D1, .slice B1 vs1.length k1] 26)).alloc (.cells #[.slice A2 os2.length c2, .int .i64 D2, .slice B2 vs2.length k2] 26) = W := ⟨_, rfl⟩
  have hbW : Below w.heap.size w W := by rw [← hW]; exact (by repeat (first | assumption | exact Below.refl _ _ | apply below_drewN | apply Below.drew | apply Below.alloc | apply Below.setCell | omega | (focus (simp; done)) | (focus (simp; omega))))
  have hsW := hide (show W.heap.size = w.heap.size + 2 by rw [← hW]; simp)
  have hszW : w.heap.size < W.heap.size := by rw [hsW.out]; omega
  have hszW1 : w.heap.size + 1 < W.heap.size := by rw [hsW.out]; omega
  have bM : Blk W w.heap.size 26 #[.slice A1 os1.length c1, .int .i64 D1, .slice B1 vs1.length k1] := by rw [← hW]; exact (Blk.new _ _ _).alloc _
  have bN : Blk W (w.heap.size + 1) 26 #[.slice A2 os2.length c2, .int .i64 D2, .slice B2 vs2.length k2] := by rw [← hW]; exact Blk.new' _ _ _ _ (by simp)
  rw [hW]
  clear hW
  have hs1 := (h1.below hbW).more (Nat.le_of_lt hszW)
  have hg1 := (g1.below hbW).more (Nat.le_of_lt hszW)
  have hs2 := (h2.below hbW).more (Nat.le_of_lt hszW)
  have hg2 := (g2.below hbW).more (Nat.le_of_lt hszW)
  have q0 := bM.cell 0
  have q1 := bM.cell 1
  have q2 := bM.cell 2
  have p0 := bN.cell 0
  have p1 := bN.cell 1
  have p2 := bN.cell 2
  go_wp2_with fail
  refine (implIs_v false _ _ _ _ _ _ _ _ _ _ hs1 hg1 hn1 hm1 i1).mono ?_
  rintro e w2 ⟨rfl, hb2⟩
  go_wp2_with fail
  refine bodyPost_ret (v := .tuple #[.bool false, .int .i64 1]) (by simp [results, Tryz.results33, go_sem]) rfl ?_
  exact ⟨by rw [hC.out, hR.out], hbW.trans (hb2.mono (Nat.le_of_lt hszW))⟩
 | true =>
  cases i2 : isM os2 D2 vs2 with
  | false =>
   have hno : ¬ AeOk os1 D1 vs1 os2 D2 vs2 := fun h => by rw [isM_t h.2.1] at i2; cases i2
   have hC := hide (show aeC os1 D1 vs1 os2 D2 vs2 = 1 by unfold aeC; rw [if_neg hno]; unfold noC; rw [i1, i2]; rfl)
   have hR := hide (show aeB os1 D1 vs1 os2 D2 vs2 = false by unfold aeB; rw [if_neg hno])
   clear hno
   go_enter Tryz.func33, Tryz.ntmps33
   go_wp2_with fail
   obtain ⟨W, hW⟩ : ∃ W, (w.alloc (.cells #[.slice A1 os1.length c1, .int .i64 D1, .slice B1 vs1.length k1] 26)).alloc (.cells #[.slice A2 os2.length c2, .int .i64 D2, .slice B2 vs2.length k2] 26) = W := ⟨_, rfl⟩
   have hbW : Below w.heap.size w W := by rw [← hW]; exact (by repeat (first | assumption | exact Below.refl _ _ | apply below_drewN | apply Below.drew | apply Below.alloc | apply Below.setCell | omega | (focus (simp; done)) | (focus (simp; omega))))
   have hsW := hide (show W.heap.size = w.heap.size + 2 by rw [← hW]; simp)
   have hszW : w.heap.size < W.heap.size := by rw [hsW.out]; omega
   have hszW1 : w.heap.size + 1 < W.heap.size := by rw [hsW.out]; omega
   have bM : Blk W w.heap.size 26 #[.slice A1 os1.length c1, .int .i64 D1, .slice B1 vs1.length k1] := by rw [← hW]; exact (Blk.new _ _ _).alloc _
   have bN : Blk W (w.heap.size + 1) 26 #[.slice A2 os2.length c2, .int .i64 D2, .slice B2 vs2.length k2] := by rw [← hW]; exact Blk.new' _ _ _ _ (by simp)
   rw [hW]
   clear hW
   have hs1 := (h1.below hbW).more (Nat.le_of_lt hszW)
   have hg1 := (g1.below hbW).more (Nat.le_of_lt hszW)
   have hs2 := (h2.below hbW).more (Nat.le_of_lt hszW)
   have hg2 := (g2.below hbW).more (Nat.le_of_lt hszW)
   have q0 := bM.cell 0
   have q1 := bM.cell 1
   have q2 := bM.cell 2
   have p0 := bN.cell 0
   have p1 := bN.cell 1
   have p2 := bN.cell 2
   go_wp2_with fail
   refine (implIs_v true _ _ _ _ _ _ _ _ _ _ hs1 hg1 hn1 hm1 i1).mono ?_
   rintro e w2 ⟨rfl, hb2⟩
   have r0 := (hb2.cell (p := ⟨w.heap.size, 0, none⟩) hszW).trans q0
   have r1 := (hb2.cell (p := ⟨w.heap.size, 1, none⟩) hszW).trans q1
   have r2 := (hb2.cell (p := ⟨w.heap.size, 2, none⟩) hszW).trans q2
   have r3 := (hb2.cell (p := ⟨w.heap.size + 1, 0, none⟩) hszW1).trans p0
   have r4 := (hb2.cell (p := ⟨w.heap.size + 1, 1, none⟩) hszW1).trans p1
   have r5 := (hb2.cell (p := ⟨w.heap.size + 1, 2, none⟩) hszW1).trans p2
   go_wp2_with fail
   refine (implIs_v false _ _ _ _ _ _ _ _ _ _ ((hs2.below hb2).more hb2.size) ((hg2.below hb2).more hb2.size) hn2 hm2 i2).mono ?_
   rintro e w3 ⟨rfl, hb3⟩
   have k3 := hb2.trans (hb3.mono hb2.size)
   clear r0 r1 r2 r3 r4 r5
   go_wp2_with fail
   refine bodyPost_ret (v := .tuple #[.bool false, .int .i64 1]) (by simp [results, Tryz.results33, go_sem]) rfl ?_
   exact ⟨by rw [hC.out, hR.out], hbW.trans (k3.mono (Nat.le_of_lt hszW))⟩
  | true =>
   have hM1 := isM_iff.1 i1
   have hM2 := isM_iff.1 i2
   have hG1 := hM1.ok.g
   have hG2 := hM2.ok.g
   have hv1 := hM1.ok.lt
   have hv2 := hM2.ok.lt
   have hq1 := hG1.ge
   have hq2 := hG2.ge
   have hle1 := hG1.l4
   have hle2 := hG2.l4
   have hpp1 := hG1.p16
   have hpp2 := hG2.p16
   have o1 := hM1.ord
   have o2 := hM2.ord
   unfold ordB at o1 o2
   obtain ⟨o1a, o1b⟩ := of_decide_eq_true o1
   obtain ⟨o2a, o2b⟩ := of_decide_eq_true o2
   obtain ⟨d1, rfl⟩ := Int.eq_ofNat_of_zero_le (show 0 ≤ D1 by omega)
   obtain ⟨d2, rfl⟩ := Int.eq_ofNat_of_zero_le (show 0 ≤ D2 by omega)
   have hQ := sumQ_at (D1 := d1) (D2 := d2) (Int.ofNat.inj (show ((55440 % d1 : Nat) : Int) = ((0 : Nat) : Int) by rw [Int.natCast_emod]; exact o1b)) (Int.ofNat.inj (show ((55440 % d2 : Nat) : Int) = ((0 : Nat) : Int) by rw [Int.natCast_emod]; exact o2b)) (by omega) (by omega)
   have hNM := neg_isM hM2
   clear o1 o2 o1b o2b
   by_cases hok : AeOk os1 d1 vs1 os2 d2 vs2
   ·have hC := hide (show aeC os1 d1 vs1 os2 d2 vs2 = 0 by unfold aeC; rw [if_pos hok])
    have hR := hide (show aeB os1 d1 vs1 os2 d2 vs2 = decide (0 < (aeL os1 d1 vs1 os2 d2 vs2).length) by unfold aeB; rw [if_pos hok]; simp only [Int.toNat_natCast])
    obtain ⟨-, -, hP, hLn⟩ := hok
    have hK := cat_ok hM1.ok hNM.ok hQ hP hLn
    obtain ⟨hal, har⟩ := aeL_sub hK
    have HAR := hide har
    have hLE := hide (show lagK (os1 ++ os2) (sD d1 d2 : Nat) (sumL (sD d1 d2) (sD d1 d2 / d1) (sD d1 d2 / d2) vs1 (negL (d2 : Int) vs2)) = aeL os1 d1 vs1 os2 d2 vs2 from rfl)
    clear har
    go_enter Tryz.func33, Tryz.ntmps33
    go_wp2_with fail
    obtain ⟨W, hW⟩ : ∃ W, (w.alloc (.cells #[.slice A1 os1.length c1, .int .i64 (d1 : Int), .slice B1 vs1.length k1] 26)).alloc (.cells #[.slice A2 os2.length c2, .int .i64 (d2 : Int), .slice B2 vs2.length k2] 26) = W := ⟨_, rfl⟩
    have hbW : Below w.heap.size w W := by rw [← hW]; exact (by repeat (first | assumption | exact Below.refl _ _ | apply below_drewN | apply Below.drew | apply Below.alloc | apply Below.setCell | omega | (focus (simp; done)) | (focus (simp; omega))))
    have hsW := hide (show W.heap.size = w.heap.size + 2 by rw [← hW]; simp)
    have hszW : w.heap.size < W.heap.size := by rw [hsW.out]; omega
    have hszW1 : w.heap.size + 1 < W.heap.size := by rw [hsW.out]; omega
    have bM : Blk W w.heap.size 26 #[.slice A1 os1.length c1, .int .i64 (d1 : Int), .slice B1 vs1.length k1] := by rw [← hW]; exact (Blk.new _ _ _).alloc _
    have bN : Blk W (w.heap.size + 1) 26 #[.slice A2 os2.length c2, .int .i64 (d2 : Int), .slice B2 vs2.length k2] := by rw [← hW]; exact Blk.new' _ _ _ _ (by simp)
    rw [hW]
    clear hW
    have hs1 := (h1.below hbW).more (Nat.le_of_lt hszW)
    have hg1 := (g1.below hbW).more (Nat.le_of_lt hszW)
    have hs2 := (h2.below hbW).more (Nat.le_of_lt hszW)
    have hg2 := (g2.below hbW).more (Nat.le_of_lt hszW)
    have q0 := bM.cell 0
    have q1 := bM.cell 1
    have q2 := bM.cell 2
    have p0 := bN.cell 0
    have p1 := bN.cell 1
    have p2 := bN.cell 2
    go_wp2_with fail
    refine (implIs_v true _ _ _ _ _ _ _ _ _ _ hs1 hg1 (by omega) (by omega) i1).mono ?_
    rintro e w2 ⟨rfl, hb2⟩
    have r0 := (hb2.cell (p := ⟨w.heap.size, 0, none⟩) hszW).trans q0
    have r1 := (hb2.cell (p := ⟨w.heap.size, 1, none⟩) hszW).trans q1
    have r2 := (hb2.cell (p := ⟨w.heap.size, 2, none⟩) hszW).trans q2
    have r3 := (hb2.cell (p := ⟨w.heap.size + 1, 0, none⟩) hszW1).trans p0
    have r4 := (hb2.cell (p := ⟨w.heap.size + 1, 1, none⟩) hszW1).trans p1
    have r5 := (hb2.cell (p := ⟨w.heap.size + 1, 2, none⟩) hszW1).trans p2
    go_wp2_with fail
    refine (implIs_v true _ _ _ _ _ _ _ _ _ _ ((hs2.below hb2).more hb2.size) ((hg2.below hb2).more hb2.size) (by omega) (by omega) i2).mono ?_
    rintro e w3 ⟨rfl, hb3⟩
    have hB := hb2.trans (hb3.mono hb2.size)
    clear r0 r1 r2 r3 r4 r5 hb2 hb3
    have HOS := hide (show ∀ x ∈ os2, i64ok x from fun x hx => by have := hG2.m2 x hx; have := hG2.m16 x hx; exact ⟨by omega, by omega⟩)
    have HNR := hide (show ∀ x ∈ negL (d2 : Int) vs2, i64ok x from fun x hx => by have := hNM.ok.rng x hx; have := hM2.ok.d2; exact ⟨by omega, by omega⟩)
    have hsum := fun W A1 n1 c1 B1 m1 k1 A2 n2 c2 B2 m2 k2 a b c d => impl_Sum_yes W A1 n1 c1 os1 d1 B1 m1 k1 vs1 A2 n2 c2 os2 d2 B2 m2 k2 (negL (d2 : Int) vs2) a b c d hM1 hNM _ _ _ _ _ hQ hP hLn
    obtain ⟨LL, hLL⟩ : ∃ LL, sumL (sD d1 d2) (sD d1 d2 / d1) (sD d1 d2 / d2) vs1 (negL (d2 : Int) vs2) = LL := ⟨_, rfl⟩
    obtain ⟨o12, ho12⟩ : ∃ o, os1 ++ os2 = o := ⟨_, rfl⟩
    simp only [hLL, ho12] at hK hLE hsum
    obtain ⟨sd, hsd⟩ : ∃ sd, sD d1 d2 = sd := ⟨_, rfl⟩
    simp only [hsd] at hK hLE hsum
    have HR1 := hide (show ∀ x ∈ o12, i64ok x from fun x hx => by have := hK.g.m2 x hx; have := hK.g.m16 x hx; exact ⟨by omega, by omega⟩)
    have HR2 := hide (show ∀ x ∈ LL, i64ok x from fun x hx => by have := hK.rng x hx; have := hK.d2; exact ⟨by omega, by omega⟩)
    have HK := hide hK
    have HSUM := hide hsum
    clear hLL ho12 hsd hQ hK hsum
    have r0 := (hB.cell (p := ⟨w.heap.size, 0, none⟩) hszW).trans q0
    have r1 := (hB.cell (p := ⟨w.heap.size, 1, none⟩) hszW).trans q1
    have r2 := (hB.cell (p := ⟨w.heap.size, 2, none⟩) hszW).trans q2
    have r3 := (hB.cell (p := ⟨w.heap.size + 1, 0, none⟩) hszW1).trans p0
    have r4 := (hB.cell (p := ⟨w.heap.size + 1, 1, none⟩) hszW1).trans p1
    have r5 := (hB.cell (p := ⟨w.heap.size + 1, 2, none⟩) hszW1).trans p2
    have hneg := impl_Negm_any
    go_wp2_with fail
    clear hneg
    refine (impl_Negm_any _ _ _ _ _ _ _ _ _ _ ((hs2.below hB).more hB.size) ((hg2.below hB).more hB.size) (by omega) (by omega)).mono ?_
    rw [gIf_t i2, gIf_t i2, gIfI_t i2, codeM_t i2]
    rintro e w4 ⟨v1, v2, rfl, ho1, ho2, -, hb4⟩
    obtain ⟨NA, nc, rfl, sn1⟩ := ho1.sl HOS.out
    obtain ⟨NB, nd, rfl, sn2⟩ := ho2.sl HNR.out
    have hB4 := hB.trans (hb4.mono hB.size)
    clear r0 r1 r2 r3 r4 r5 ho1 ho2 hb4
    have r0 := (hB4.cell (p := ⟨w.heap.size, 0, none⟩) hszW).trans q0
    have r1 := (hB4.cell (p := ⟨w.heap.size, 1, none⟩) hszW).trans q1
    have r2 := (hB4.cell (p := ⟨w.heap.size, 2, none⟩) hszW).trans q2
    have r3 := (hB4.cell (p := ⟨w.heap.size + 1, 0, none⟩) hszW1).trans p0
    have r4 := (hB4.cell (p := ⟨w.heap.size + 1, 1, none⟩) hszW1).trans p1
    have r5 := (hB4.cell (p := ⟨w.heap.size + 1, 2, none⟩) hszW1).trans p2
    have hz4 := hB4.size
    have hw4 : w.heap.size < w4.heap.size := by omega
    have hw5 : w.heap.size + 1 < w4.heap.size := by omega
    go_wp2_with fail
    have hB5 := hB4.trans (((Below.refl w4.heap.size w4).alloc (Nat.le_refl _) (.cells #[.slice NA os2.length nc, .int .i64 d2, .slice NB (negL (d2 : Int) vs2).length nd] 26)).mono hB4.size)
    have ha4 : (w4.alloc (.cells #[.slice NA os2.length nc, .int .i64 d2, .slice NB (negL (d2 : Int) vs2).length nd] 26)).heap.size = w4.heap.size + 1 := by simp
    refine (HSUM.out _ _ _ _ _ _ _ _ _ _ _ _ _ ((hs1.below hB5).more hB5.size) ((hg1.below hB5).more hB5.size) ((sn1.alloc (Nat.le_refl _) _).more (by rw [ha4]; omega)) ((sn2.alloc (Nat.le_refl _) _).more (by rw [ha4]; omega))).mono ?_
    rintro e w6 ⟨u1', u2', rfl, ho1, ho2, -, hb6⟩
    obtain ⟨SA, sc, rfl, ss1⟩ := ho1.sl HR1.out
    obtain ⟨SB, se, rfl, ss2⟩ := ho2.sl HR2.out
    have hB6 := hB5.trans (hb6.mono hB5.size)
    clear r0 r1 r2 r3 r4 r5 ho1 ho2 hb6 hw4 hw5 ha4 sn1 sn2
    go_wp2_with fail
    have hB7 := hB6.trans (((Below.refl w6.heap.size w6).alloc (Nat.le_refl _) (.cells #[.slice SA o12.length sc, .int .i64 sd, .slice SB LL.length se] 26)).mono hB6.size)
    have ha6 : (w6.alloc (.cells #[.slice SA o12.length sc, .int .i64 sd, .slice SB LL.length se] 26)).heap.size = w6.heap.size + 1 := by simp
    refine (lagrangianMasks_any _ _ _ _ o12 _ _ _ _ LL ((ss1.alloc (Nat.le_refl _) _).more (by rw [ha6]; omega)) ((ss2.alloc (Nat.le_refl _) _).more (by rw [ha6]; omega)) HK.out ((hT.bel hbW).bel hB7)).mono ?_
    rw [hLE.out]
    rintro e w8 ⟨v8, rfl, hV8, hb8⟩
    obtain ⟨G, cg, rfl, sg⟩ := hV8.sl HAR.out
    have hB8 := hB7.trans (hb8.mono hB7.size)
    clear sg hV8 hb8 ha6 ss1 ss2
    obtain ⟨al, hal2⟩ : ∃ al, (aeL os1 d1 vs1 os2 d2 vs2).length = al := ⟨_, rfl⟩
    have HRR := hide (show aeB os1 d1 vs1 os2 d2 vs2 = decide (0 < al) by rw [← hal2]; exact hR.out)
    rw [hal2]
    clear hal2 hal
    by_cases h0 : 0 < al
    ·have hR2 := hide (show aeB os1 d1 vs1 os2 d2 vs2 = true by rw [HRR.out]; exact decide_eq_true h0)
     have h0i : (0 : Int) < (al : Int) := by omega
     have HH := hide h0
     clear h0
     go_wp2_with fail
     refine bodyPost_ret (v := .tuple #[.bool true, .int .i64 0]) (by simp [results, Tryz.results33, go_sem]; have := HH.out; omega) rfl ?_
     exact ⟨by rw [hC.out, hR2.out], hbW.trans (hB8.mono (Nat.le_of_lt hszW))⟩
    ·have hR2 := hide (show aeB os1 d1 vs1 os2 d2 vs2 = false by rw [HRR.out]; exact decide_eq_false h0)
     have h0i : ¬ (0 : Int) < (al : Int) := by omega
     have HH := hide h0
     clear h0
     go_wp2_with fail
     refine bodyPost_ret (v := .tuple #[.bool false, .int .i64 0]) (by simp [results, Tryz.results33, go_sem]; have := HH.out; omega) rfl ?_
     exact ⟨by rw [hC.out, hR2.out], hbW.trans (hB8.mono (Nat.le_of_lt hszW))⟩
   ·have hC := hide (show aeC os1 d1 vs1 os2 d2 vs2 = 3 by unfold aeC; rw [if_neg hok]; unfold noC; rw [i1, i2]; rfl)
    have hR := hide (show aeB os1 d1 vs1 os2 d2 vs2 = false by unfold aeB; rw [if_neg hok])
    have hbad : ¬ (prodL os1 * prodL os2 ≤ 16 ∧ os1.length + os2.length ≤ 4) := fun h => hok ⟨hM1, hM2, h⟩
    clear hok
    go_enter Tryz.func33, Tryz.ntmps33
    go_wp2_with fail
    obtain ⟨W, hW⟩ : ∃ W, (w.alloc (.cells #[.slice A1 os1.length c1, .int .i64 (d1 : Int), .slice B1 vs1.length k1] 26)).alloc (.cells #[.slice A2 os2.length c2, .int .i64 (d2 : Int), .slice B2 vs2.length k2] 26) = W := ⟨_, rfl⟩
    have hbW : Below w.heap.size w W := by rw [← hW]; exact (by repeat (first | assumption | exact Below.refl _ _ | apply below_drewN | apply Below.drew | apply Below.alloc | apply Below.setCell | omega | (focus (simp; done)) | (focus (simp; omega))))
    have hsW := hide (show W.heap.size = w.heap.size + 2 by rw [← hW]; simp)
    have hszW : w.heap.size < W.heap.size := by rw [hsW.out]; omega
    have hszW1 : w.heap.size + 1 < W.heap.size := by rw [hsW.out]; omega
    have bM : Blk W w.heap.size 26 #[.slice A1 os1.length c1, .int .i64 (d1 : Int), .slice B1 vs1.length k1] := by rw [← hW]; exact (Blk.new _ _ _).alloc _
    have bN : Blk W (w.heap.size + 1) 26 #[.slice A2 os2.length c2, .int .i64 (d2 : Int), .slice B2 vs2.length k2] := by rw [← hW]; exact Blk.new' _ _ _ _ (by simp)
    rw [hW]
    clear hW
    have hs1 := (h1.below hbW).more (Nat.le_of_lt hszW)
    have hg1 := (g1.below hbW).more (Nat.le_of_lt hszW)
    have hs2 := (h2.below hbW).more (Nat.le_of_lt hszW)
    have hg2 := (g2.below hbW).more (Nat.le_of_lt hszW)
    have q0 := bM.cell 0
    have q1 := bM.cell 1
    have q2 := bM.cell 2
    have p0 := bN.cell 0
    have p1 := bN.cell 1
    have p2 := bN.cell 2
    go_wp2_with fail
    refine (implIs_v true _ _ _ _ _ _ _ _ _ _ hs1 hg1 (by omega) (by omega) i1).mono ?_
    rintro e w2 ⟨rfl, hb2⟩
    have r0 := (hb2.cell (p := ⟨w.heap.size, 0, none⟩) hszW).trans q0
    have r1 := (hb2.cell (p := ⟨w.heap.size, 1, none⟩) hszW).trans q1
    have r2 := (hb2.cell (p := ⟨w.heap.size, 2, none⟩) hszW).trans q2
    have r3 := (hb2.cell (p := ⟨w.heap.size + 1, 0, none⟩) hszW1).trans p0
    have r4 := (hb2.cell (p := ⟨w.heap.size + 1, 1, none⟩) hszW1).trans p1
    have r5 := (hb2.cell (p := ⟨w.heap.size + 1, 2, none⟩) hszW1).trans p2
    go_wp2_with fail
    refine (implIs_v true _ _ _ _ _ _ _ _ _ _ ((hs2.below hb2).more hb2.size) ((hg2.below hb2).more hb2.size) (by omega) (by omega) i2).mono ?_
    rintro e w3 ⟨rfl, hb3⟩
    have hB := hb2.trans (hb3.mono hb2.size)
    clear r0 r1 r2 r3 r4 r5 hb2 hb3
    have HOS := hide (show ∀ x ∈ os2, i64ok x from fun x hx => by have := hG2.m2 x hx; have := hG2.m16 x hx; exact ⟨by omega, by omega⟩)
    have HNR := hide (show ∀ x ∈ negL (d2 : Int) vs2, i64ok x from fun x hx => by have := hNM.ok.rng x hx; have := hM2.ok.d2; exact ⟨by omega, by omega⟩)
    have hno3 := hide (show noC os1 d1 vs1 os2 d2 (negL (d2 : Int) vs2) = 3 by unfold noC; rw [i1, isM_t hNM]; rfl)
    have hvn : (negL (d2 : Int) vs2).length ≤ 16 := hNM.ok.lt
    have hsno := fun W A1 n1 c1 B1 m1 k1 A2 n2 c2 B2 m2 k2 a b c d e f g h => impl_Sum_no W A1 n1 c1 os1 d1 B1 m1 k1 vs1 A2 n2 c2 os2 d2 B2 m2 k2 (negL (d2 : Int) vs2) a b c d e f g h (fun h9 => hbad h9.2.2)
    rw [hno3.out] at hsno
    have HSUM := hide hsno
    clear hsno hQ hbad
    have r0 := (hB.cell (p := ⟨w.heap.size, 0, none⟩) hszW).trans q0
    have r1 := (hB.cell (p := ⟨w.heap.size, 1, none⟩) hszW).trans q1
    have r2 := (hB.cell (p := ⟨w.heap.size, 2, none⟩) hszW).trans q2
    have r3 := (hB.cell (p := ⟨w.heap.size + 1, 0, none⟩) hszW1).trans p0
    have r4 := (hB.cell (p := ⟨w.heap.size + 1, 1, none⟩) hszW1).trans p1
    have r5 := (hB.cell (p := ⟨w.heap.size + 1, 2, none⟩) hszW1).trans p2
    have hneg := impl_Negm_any
    go_wp2_with fail
    clear hneg
    refine (impl_Negm_any _ _ _ _ _ _ _ _ _ _ ((hs2.below hB).more hB.size) ((hg2.below hB).more hB.size) (by omega) (by omega)).mono ?_
    rw [gIf_t i2, gIf_t i2, gIfI_t i2, codeM_t i2]
    rintro e w4 ⟨v1, v2, rfl, ho1, ho2, -, hb4⟩
    obtain ⟨NA, nc, rfl, sn1⟩ := ho1.sl HOS.out
    obtain ⟨NB, nd, rfl, sn2⟩ := ho2.sl HNR.out
    have hB4 := hB.trans (hb4.mono hB.size)
    clear r0 r1 r2 r3 r4 r5 ho1 ho2 hb4
    have r0 := (hB4.cell (p := ⟨w.heap.size, 0, none⟩) hszW).trans q0
    have r1 := (hB4.cell (p := ⟨w.heap.size, 1, none⟩) hszW).trans q1
    have r2 := (hB4.cell (p := ⟨w.heap.size, 2, none⟩) hszW).trans q2
    have r3 := (hB4.cell (p := ⟨w.heap.size + 1, 0, none⟩) hszW1).trans p0
    have r4 := (hB4.cell (p := ⟨w.heap.size + 1, 1, none⟩) hszW1).trans p1
    have r5 := (hB4.cell (p := ⟨w.heap.size + 1, 2, none⟩) hszW1).trans p2
    have hz4 := hB4.size
    have hw4 : w.heap.size < w4.heap.size := by omega
    have hw5 : w.heap.size + 1 < w4.heap.size := by omega
    go_wp2_with fail
    have hB5 := hB4.trans (((Below.refl w4.heap.size w4).alloc (Nat.le_refl _) (.cells #[.slice NA os2.length nc, .int .i64 d2, .slice NB (negL (d2 : Int) vs2).length nd] 26)).mono hB4.size)
    have ha4 : (w4.alloc (.cells #[.slice NA os2.length nc, .int .i64 d2, .slice NB (negL (d2 : Int) vs2).length nd] 26)).heap.size = w4.heap.size + 1 := by simp
    refine (HSUM.out _ _ _ _ _ _ _ _ _ _ _ _ _ ((hs1.below hB5).more hB5.size) ((hg1.below hB5).more hB5.size) ((sn1.alloc (Nat.le_refl _) _).more (by rw [ha4]; omega)) ((sn2.alloc (Nat.le_refl _) _).more (by rw [ha4]; omega)) (by omega) (by omega) (by omega) (by omega)).mono ?_
    rintro e w6 ⟨rfl, hb6⟩
    have hB6 := hB5.trans (hb6.mono hB5.size)
    clear r0 r1 r2 r3 r4 r5 hb6 hw4 hw5 ha4 sn1 sn2
    go_wp2_with fail
    refine bodyPost_ret (v := .tuple #[.bool false, .int .i64 3]) (by simp [results, Tryz.results33, go_sem]) rfl ?_
    exact ⟨by rw [hC.out, hR.out], hbW.trans ((hB6.trans ((Below.refl _ _).alloc (Nat.le_refl _) _ |>.mono hB6.size)).mono (Nat.le_of_lt hszW))⟩
set_option maxHeartbeats 8000000 in
theorem spec_AE_any (w : World) (A1 : Option Addr) (n1 c1 : Nat) (os1 : List Int) (D1 : Int) (B1 : Option Addr) (m1 k1 : Nat) (vs1 : List Int) (A2 : Option Addr) (n2 c2 : Nat) (os2 : List Int) (D2 : Int) (B2 : Option Addr) (m2 k2 : Nat) (vs2 : List Int)
  (h1 : Sl w w.heap.size A1 n1 c1 os1) (g1 : Sl w w.heap.size B1 m1 k1 vs1) (h2 : Sl w w.heap.size A2 n2 c2 os2) (g2 : Sl w w.heap.size B2 m2 k2 vs2) (hn1 : n1 ≤ 1048576) (hm1 : m1 ≤ 1048576) (hn2 : n2 ≤ 1048576) (hm2 : m2 ≤ 1048576) :
  Calls Tryz.prog 34 #[.agg #[.slice A1 n1 c1, .int .i64 D1, .slice B1 m1 k1], .agg #[.slice A2 n2 c2, .int .i64 D2, .slice B2 m2 k2]] w (ReB w (aeB os1 D1 vs1 os2 D2 vs2) (aeC os1 D1 vs1 os2 D2 vs2)) := by
 obtain rfl := h1.len
 obtain rfl := g1.len
 obtain rfl := h2.len
 obtain rfl := g2.len
 cases i1 : isM os1 D1 vs1 with
 | false =>
  have hno : ¬ AeOk os1 D1 vs1 os2 D2 vs2 := fun h => by rw [isM_t h.1] at i1; cases i1
  have hC := hide (show aeC os1 D1 vs1 os2 D2 vs2 = 1 by unfold aeC; rw [if_neg hno]; unfold noC; rw [i1]; rfl)
  have hR := hide (show aeB os1 D1 vs1 os2 D2 vs2 = false by unfold aeB; rw [if_neg hno])
  clear hno
  go_enter Tryz.func34, Tryz.ntmps34
  go_wp2_with fail
  obtain ⟨W, hW⟩ : ∃ W, (w.alloc (.cells #[.slice A1 os1.length c1, .int .i64 D1, .slice B1 vs1.length k1] 26)).alloc (.cells #[.slice A2 os2.length c2, .int .i64 D2, .slice B2 vs2.length k2] 26) = W := ⟨_, rfl⟩
  have hbW : Below w.heap.size w W := by rw [← hW]; exact (by repeat (first | assumption | exact Below.refl _ _ | apply below_drewN | apply Below.drew | apply Below.alloc | apply Below.setCell | omega | (focus (simp; done)) | (focus (simp; omega))))
  have hsW := hide (show W.heap.size = w.heap.size + 2 by rw [← hW]; simp)
  have hszW : w.heap.size < W.heap.size := by rw [hsW.out]; omega
  have hszW1 : w.heap.size + 1 < W.heap.size := by rw [hsW.out]; omega
  have bM : Blk W w.heap.size 26 #[.slice A1 os1.length c1, .int .i64 D1, .slice B1 vs1.length k1] := by rw [← hW]; exact (Blk.new _ _ _).alloc _
  have bN : Blk W (w.heap.size + 1) 26 #[.slice A2 os2.length c2, .int .i64 D2, .slice B2 vs2.length k2] := by rw [← hW]; exact Blk.new' _ _ _ _ (by simp)
  rw [hW]
  clear hW
  have hs1 := (h1.below hbW).more (Nat.le_of_lt hszW)
  have hg1 := (g1.below hbW).more (Nat.le_of_lt hszW)
  have hs2 := (h2.below hbW).more (Nat.le_of_lt hszW)
  have hg2 := (g2.below hbW).more (Nat.le_of_lt hszW)
  have q0 := bM.cell 0
  have q1 := bM.cell 1
  have q2 := bM.cell 2
  have p0 := bN.cell 0
  have p1 := bN.cell 1
  have p2 := bN.cell 2
  go_wp2_with fail
  refine (l10Is_v false _ _ _ _ _ _ _ _ _ _ hs1 hg1 hn1 hm1 i1).mono ?_
  rintro e w2 ⟨rfl, hb2⟩
  go_wp2_with fail
  refine bodyPost_ret (v := .tuple #[.bool false, .int .i64 1]) (by simp [results, Tryz.results34, go_sem]) rfl ?_
  exact ⟨by rw [hC.out, hR.out], hbW.trans (hb2.mono (Nat.le_of_lt hszW))⟩
 | true =>
  cases i2 : isM os2 D2 vs2 with
  | false =>
   have hno : ¬ AeOk os1 D1 vs1 os2 D2 vs2 := fun h => by rw [isM_t h.2.1] at i2; cases i2
   have hC := hide (show aeC os1 D1 vs1 os2 D2 vs2 = 1 by unfold aeC; rw [if_neg hno]; unfold noC; rw [i1, i2]; rfl)
   have hR := hide (show aeB os1 D1 vs1 os2 D2 vs2 = false by unfold aeB; rw [if_neg hno])
   clear hno
   go_enter Tryz.func34, Tryz.ntmps34
   go_wp2_with fail
   obtain ⟨W, hW⟩ : ∃ W, (w.alloc (.cells #[.slice A1 os1.length c1, .int .i64 D1, .slice B1 vs1.length k1] 26)).alloc (.cells #[.slice A2 os2.length c2, .int .i64 D2, .slice B2 vs2.length k2] 26) = W := ⟨_, rfl⟩
   have hbW : Below w.heap.size w W := by rw [← hW]; exact (by repeat (first | assumption | exact Below.refl _ _ | apply below_drewN | apply Below.drew | apply Below.alloc | apply Below.setCell | omega | (focus (simp; done)) | (focus (simp; omega))))
   have hsW := hide (show W.heap.size = w.heap.size + 2 by rw [← hW]; simp)
   have hszW : w.heap.size < W.heap.size := by rw [hsW.out]; omega
   have hszW1 : w.heap.size + 1 < W.heap.size := by rw [hsW.out]; omega
   have bM : Blk W w.heap.size 26 #[.slice A1 os1.length c1, .int .i64 D1, .slice B1 vs1.length k1] := by rw [← hW]; exact (Blk.new _ _ _).alloc _
   have bN : Blk W (w.heap.size + 1) 26 #[.slice A2 os2.length c2, .int .i64 D2, .slice B2 vs2.length k2] := by rw [← hW]; exact Blk.new' _ _ _ _ (by simp)
   rw [hW]
   clear hW
   have hs1 := (h1.below hbW).more (Nat.le_of_lt hszW)
   have hg1 := (g1.below hbW).more (Nat.le_of_lt hszW)
   have hs2 := (h2.below hbW).more (Nat.le_of_lt hszW)
   have hg2 := (g2.below hbW).more (Nat.le_of_lt hszW)
   have q0 := bM.cell 0
   have q1 := bM.cell 1
   have q2 := bM.cell 2
   have p0 := bN.cell 0
   have p1 := bN.cell 1
   have p2 := bN.cell 2
   go_wp2_with fail
   refine (l10Is_v true _ _ _ _ _ _ _ _ _ _ hs1 hg1 hn1 hm1 i1).mono ?_
   rintro e w2 ⟨rfl, hb2⟩
   have r0 := (hb2.cell (p := ⟨w.heap.size, 0, none⟩) hszW).trans q0
   have r1 := (hb2.cell (p := ⟨w.heap.size, 1, none⟩) hszW).trans q1
   have r2 := (hb2.cell (p := ⟨w.heap.size, 2, none⟩) hszW).trans q2
   have r3 := (hb2.cell (p := ⟨w.heap.size + 1, 0, none⟩) hszW1).trans p0
   have r4 := (hb2.cell (p := ⟨w.heap.size + 1, 1, none⟩) hszW1).trans p1
   have r5 := (hb2.cell (p := ⟨w.heap.size + 1, 2, none⟩) hszW1).trans p2
   go_wp2_with fail
   refine (l10Is_v false _ _ _ _ _ _ _ _ _ _ ((hs2.below hb2).more hb2.size) ((hg2.below hb2).more hb2.size) hn2 hm2 i2).mono ?_
   rintro e w3 ⟨rfl, hb3⟩
   have k3 := hb2.trans (hb3.mono hb2.size)
   clear r0 r1 r2 r3 r4 r5
   go_wp2_with fail
   refine bodyPost_ret (v := .tuple #[.bool false, .int .i64 1]) (by simp [results, Tryz.results34, go_sem]) rfl ?_
   exact ⟨by rw [hC.out, hR.out], hbW.trans (k3.mono (Nat.le_of_lt hszW))⟩
  | true =>
   have hM1 := isM_iff.1 i1
   have hM2 := isM_iff.1 i2
   have hG1 := hM1.ok.g
   have hG2 := hM2.ok.g
   have hv1 := hM1.ok.lt
   have hv2 := hM2.ok.lt
   have hq1 := hG1.ge
   have hq2 := hG2.ge
   have hle1 := hG1.l4
   have hle2 := hG2.l4
   have hpp1 := hG1.p16
   have hpp2 := hG2.p16
   have o1 := hM1.ord
   have o2 := hM2.ord
   unfold ordB at o1 o2
   obtain ⟨o1a, o1b⟩ := of_decide_eq_true o1
   obtain ⟨o2a, o2b⟩ := of_decide_eq_true o2
   obtain ⟨d1, rfl⟩ := Int.eq_ofNat_of_zero_le (show 0 ≤ D1 by omega)
   obtain ⟨d2, rfl⟩ := Int.eq_ofNat_of_zero_le (show 0 ≤ D2 by omega)
   have hQ := sumQ_at (D1 := d1) (D2 := d2) (Int.ofNat.inj (show ((55440 % d1 : Nat) : Int) = ((0 : Nat) : Int) by rw [Int.natCast_emod]; exact o1b)) (Int.ofNat.inj (show ((55440 % d2 : Nat) : Int) = ((0 : Nat) : Int) by rw [Int.natCast_emod]; exact o2b)) (by omega) (by omega)
   have hNM := neg_isM hM2
   clear o1 o2 o1b o2b
   by_cases hok : AeOk os1 d1 vs1 os2 d2 vs2
   ·have hC := hide (show aeC os1 d1 vs1 os2 d2 vs2 = 0 by unfold aeC; rw [if_pos hok])
    have hR := hide (show aeB os1 d1 vs1 os2 d2 vs2 = decide (0 < (aeL os1 d1 vs1 os2 d2 vs2).length) by unfold aeB; rw [if_pos hok]; simp only [Int.toNat_natCast])
    obtain ⟨-, -, hP, hLn⟩ := hok
    have hK := cat_ok hM1.ok hNM.ok hQ hP hLn
    obtain ⟨hal, har⟩ := aeL_sub hK
    have HAR := hide har
    have hLE := hide (show lagK (os1 ++ os2) (sD d1 d2 : Nat) (sumL (sD d1 d2) (sD d1 d2 / d1) (sD d1 d2 / d2) vs1 (negL (d2 : Int) vs2)) = aeL os1 d1 vs1 os2 d2 vs2 from rfl)
    clear har
    go_enter Tryz.func34, Tryz.ntmps34
    go_wp2_with fail
    obtain ⟨W, hW⟩ : ∃ W, (w.alloc (.cells #[.slice A1 os1.length c1, .int .i64 (d1 : Int), .slice B1 vs1.length k1] 26)).alloc (.cells #[.slice A2 os2.length c2, .int .i64 (d2 : Int), .slice B2 vs2.length k2] 26) = W := ⟨_, rfl⟩
    have hbW : Below w.heap.size w W := by rw [← hW]; exact (by repeat (first | assumption | exact Below.refl _ _ | apply below_drewN | apply Below.drew | apply Below.alloc | apply Below.setCell | omega | (focus (simp; done)) | (focus (simp; omega))))
    have hsW := hide (show W.heap.size = w.heap.size + 2 by rw [← hW]; simp)
    have hszW : w.heap.size < W.heap.size := by rw [hsW.out]; omega
    have hszW1 : w.heap.size + 1 < W.heap.size := by rw [hsW.out]; omega
    have bM : Blk W w.heap.size 26 #[.slice A1 os1.length c1, .int .i64 (d1 : Int), .slice B1 vs1.length k1] := by rw [← hW]; exact (Blk.new _ _ _).alloc _
    have bN : Blk W (w.heap.size + 1) 26 #[.slice A2 os2.length c2, .int .i64 (d2 : Int), .slice B2 vs2.length k2] := by rw [← hW]; exact Blk.new' _ _ _ _ (by simp)
    rw [hW]
    clear hW
    have hs1 := (h1.below hbW).more (Nat.le_of_lt hszW)
    have hg1 := (g1.below hbW).more (Nat.le_of_lt hszW)
    have hs2 := (h2.below hbW).more (Nat.le_of_lt hszW)
    have hg2 := (g2.below hbW).more (Nat.le_of_lt hszW)
    have q0 := bM.cell 0
    have q1 := bM.cell 1
    have q2 := bM.cell 2
    have p0 := bN.cell 0
    have p1 := bN.cell 1
    have p2 := bN.cell 2
    go_wp2_with fail
    refine (l10Is_v true _ _ _ _ _ _ _ _ _ _ hs1 hg1 (by omega) (by omega) i1).mono ?_
    rintro e w2 ⟨rfl, hb2⟩
    have r0 := (hb2.cell (p := ⟨w.heap.size, 0, none⟩) hszW).trans q0
    have r1 := (hb2.cell (p := ⟨w.heap.size, 1, none⟩) hszW).trans q1
    have r2 := (hb2.cell (p := ⟨w.heap.size, 2, none⟩) hszW).trans q2
    have r3 := (hb2.cell (p := ⟨w.heap.size + 1, 0, none⟩) hszW1).trans p0
    have r4 := (hb2.cell (p := ⟨w.heap.size + 1, 1, none⟩) hszW1).trans p1
    have r5 := (hb2.cell (p := ⟨w.heap.size + 1, 2, none⟩) hszW1).trans p2
    go_wp2_with fail
    refine (l10Is_v true _ _ _ _ _ _ _ _ _ _ ((hs2.below hb2).more hb2.size) ((hg2.below hb2).more hb2.size) (by omega) (by omega) i2).mono ?_
    rintro e w3 ⟨rfl, hb3⟩
    have hB := hb2.trans (hb3.mono hb2.size)
    clear r0 r1 r2 r3 r4 r5 hb2 hb3
    have hb0 : 0 ≤ prodL os1 * prodL os2 := Int.mul_nonneg (by omega) (by omega)
    obtain ⟨P0, hP0⟩ : ∃ P0, prodL os1 * prodL os2 = P0 := ⟨_, rfl⟩
    have hP' := hP
    rw [hP0] at hP' hb0
    have s1 : IntKind.i64.wrap (prodL os1 * prodL os2) = P0 := by rw [hP0]; exact wrap_in (by omega) (by omega)
    have s2 : IntKind.i64.wrap ((os1.length : Int) + (os2.length : Int)) = (os1.length : Int) + (os2.length : Int) := wrap_in (by omega) (by omega)
    have s4 : decide ((16 : Int) < P0) = false := by rw [decide_eq_false_iff_not]; omega
    have s5 : decide ((4 : Int) < (os1.length : Int) + (os2.length : Int)) = false := by rw [decide_eq_false_iff_not]; omega
    clear hP0
    have HOS := hide (show ∀ x ∈ os2, i64ok x from fun x hx => by have := hG2.m2 x hx; have := hG2.m16 x hx; exact ⟨by omega, by omega⟩)
    have HNR := hide (show ∀ x ∈ negL (d2 : Int) vs2, i64ok x from fun x hx => by have := hNM.ok.rng x hx; have := hM2.ok.d2; exact ⟨by omega, by omega⟩)
    have hsum := fun W A1 n1 c1 B1 m1 k1 A2 n2 c2 B2 m2 k2 a b c d => l10Sum_gen W A1 n1 c1 os1 d1 B1 m1 k1 vs1 A2 n2 c2 os2 d2 B2 m2 k2 (negL (d2 : Int) vs2) a b c d (isM_ok0 hM1) (isM_ok0 hNM) _ _ _ _ _ hQ
    obtain ⟨LL, hLL⟩ : ∃ LL, sumL (sD d1 d2) (sD d1 d2 / d1) (sD d1 d2 / d2) vs1 (negL (d2 : Int) vs2) = LL := ⟨_, rfl⟩
    obtain ⟨o12, ho12⟩ : ∃ o, os1 ++ os2 = o := ⟨_, rfl⟩
    simp only [hLL, ho12] at hK hLE hsum
    obtain ⟨sd, hsd⟩ : ∃ sd, sD d1 d2 = sd := ⟨_, rfl⟩
    simp only [hsd] at hK hLE hsum
    have HR1 := hide (show ∀ x ∈ o12, i64ok x from fun x hx => by have := hK.g.m2 x hx; have := hK.g.m16 x hx; exact ⟨by omega, by omega⟩)
    have HR2 := hide (show ∀ x ∈ LL, i64ok x from fun x hx => by have := hK.rng x hx; have := hK.d2; exact ⟨by omega, by omega⟩)
    have HK := hide hK
    have HSUM := hide hsum
    clear hLL ho12 hsd hQ hK hsum
    go_wp2_with fail
    refine wp_region_be [0, 1, 3, 4, 2, 5, 6, 7, 8, 9, 10, 11, 12, 13, 14, 15, 16, 17] 18 W.heap.size W (by kernel_rfl) (by kernel_rfl) (by kernel_rfl) (fun _ _ _ _ _ h => h) hB (fun wd hBe => ?_)
    repeat (first | (apply ord_tk rfl (by rfl) (by rfl) (by rfl); (focus (intro wx hSw; have r0 := (hSw.cell (p := ⟨w.heap.size, 0, none⟩) hszW).trans q0; have r1 := (hSw.cell (p := ⟨w.heap.size, 1, none⟩) hszW).trans q1; have r2 := (hSw.cell (p := ⟨w.heap.size, 2, none⟩) hszW).trans q2; have r3 := (hSw.cell (p := ⟨w.heap.size + 1, 0, none⟩) hszW1).trans p0; have r4 := (hSw.cell (p := ⟨w.heap.size + 1, 1, none⟩) hszW1).trans p1; have r5 := (hSw.cell (p := ⟨w.heap.size + 1, 2, none⟩) hszW1).trans p2; go_simp; (try with_reducible rfl))); (try simp only [Act.put, List.setIfInBounds_toArray, List.set_cons_zero, List.set_cons_succ])) | (apply ord_skip rfl (by rfl) (by rfl) (fun _ => hBe); (try simp only [Act.put, List.setIfInBounds_toArray, List.set_cons_zero, List.set_cons_succ])))
    refine ord_do rfl (by rfl) (by rfl) (fun K hK => ?_)
    go_simp
    refine (((l10Size_any _ _ _ _ _ _ (hs1.below hBe) hG1).mono fun _ _ h => Qt.re h)).mono ?_
    rintro e wd' ⟨rfl, hwd⟩
    replace hBe := hBe.trans (hwd.mono hBe.size)
    clear hwd
    refine hK.out _ _ (fun _ => hBe) ?_
    (try simp only [Act.put, List.setIfInBounds_toArray, List.set_cons_zero, List.set_cons_succ])
    clear hK K
    repeat (first | (apply ord_tk rfl (by rfl) (by rfl) (by rfl); (focus (intro wx hSw; have r0 := (hSw.cell (p := ⟨w.heap.size, 0, none⟩) hszW).trans q0; have r1 := (hSw.cell (p := ⟨w.heap.size, 1, none⟩) hszW).trans q1; have r2 := (hSw.cell (p := ⟨w.heap.size, 2, none⟩) hszW).trans q2; have r3 := (hSw.cell (p := ⟨w.heap.size + 1, 0, none⟩) hszW1).trans p0; have r4 := (hSw.cell (p := ⟨w.heap.size + 1, 1, none⟩) hszW1).trans p1; have r5 := (hSw.cell (p := ⟨w.heap.size + 1, 2, none⟩) hszW1).trans p2; go_simp; (try with_reducible rfl))); (try simp only [Act.put, List.setIfInBounds_toArray, List.set_cons_zero, List.set_cons_succ])) | (apply ord_skip rfl (by rfl) (by rfl) (fun _ => hBe); (try simp only [Act.put, List.setIfInBounds_toArray, List.set_cons_zero, List.set_cons_succ])))
    refine ord_do rfl (by rfl) (by rfl) (fun K hK => ?_)
    go_simp
    refine (((l10Size_any _ _ _ _ _ _ (hs2.below hBe) hG2).mono fun _ _ h => Qt.re h)).mono ?_
    rintro e wd' ⟨rfl, hwd⟩
    replace hBe := hBe.trans (hwd.mono hBe.size)
    clear hwd
    refine hK.out _ _ (fun _ => hBe) ?_
    (try simp only [Act.put, List.setIfInBounds_toArray, List.set_cons_zero, List.set_cons_succ])
    clear hK K
    repeat (first | (apply ord_tk rfl (by rfl) (by rfl) (by rfl); (focus (intro wx hSw; have r0 := (hSw.cell (p := ⟨w.heap.size, 0, none⟩) hszW).trans q0; have r1 := (hSw.cell (p := ⟨w.heap.size, 1, none⟩) hszW).trans q1; have r2 := (hSw.cell (p := ⟨w.heap.size, 2, none⟩) hszW).trans q2; have r3 := (hSw.cell (p := ⟨w.heap.size + 1, 0, none⟩) hszW1).trans p0; have r4 := (hSw.cell (p := ⟨w.heap.size + 1, 1, none⟩) hszW1).trans p1; have r5 := (hSw.cell (p := ⟨w.heap.size + 1, 2, none⟩) hszW1).trans p2; go_simp; (try with_reducible rfl))); (try simp only [Act.put, List.setIfInBounds_toArray, List.set_cons_zero, List.set_cons_succ])) | (apply ord_skip rfl (by rfl) (by rfl) (fun _ => hBe); (try simp only [Act.put, List.setIfInBounds_toArray, List.set_cons_zero, List.set_cons_succ])))
    refine ord_nil ?_
    clear s1 s2 hB
    go_wp2_with fail
    have hB := hBe
    refine wp_region_be [0, 1, 2, 3, 4, 5, 6, 7, 8] 7 W.heap.size W (by kernel_rfl) (by kernel_rfl) (by kernel_rfl) (fun _ _ _ _ _ h => h) hB (fun wd hBe => ?_)
    repeat (first | (apply ord_tk rfl (by rfl) (by rfl) (by rfl); (focus (intro wx hSw; have r0 := (hSw.cell (p := ⟨w.heap.size, 0, none⟩) hszW).trans q0; have r1 := (hSw.cell (p := ⟨w.heap.size, 1, none⟩) hszW).trans q1; have r2 := (hSw.cell (p := ⟨w.heap.size, 2, none⟩) hszW).trans q2; have r3 := (hSw.cell (p := ⟨w.heap.size + 1, 0, none⟩) hszW1).trans p0; have r4 := (hSw.cell (p := ⟨w.heap.size + 1, 1, none⟩) hszW1).trans p1; have r5 := (hSw.cell (p := ⟨w.heap.size + 1, 2, none⟩) hszW1).trans p2; go_simp; (try with_reducible rfl))); (try simp only [Act.put, List.setIfInBounds_toArray, List.set_cons_zero, List.set_cons_succ])) | (apply ord_skip rfl (by rfl) (by rfl) (fun _ => hBe); (try simp only [Act.put, List.setIfInBounds_toArray, List.set_cons_zero, List.set_cons_succ])))
    refine ord_do rfl (by rfl) (by rfl) (fun K hK => ?_)
    go_simp
    refine (l10Minus_any _ _ _ _ _ _ _ _ _ _ ((hs2.below hBe).more hBe.size) ((hg2.below hBe).more hBe.size) hM2.ok).mono ?_
    rintro e w4 ⟨v1, v2, rfl, ho1, ho2, -, hb4⟩
    obtain ⟨NA, nc, rfl, sn1⟩ := ho1.sl HOS.out
    obtain ⟨NB, nd, rfl, sn2⟩ := ho2.sl HNR.out
    replace hBe := hBe.trans (hb4.mono hBe.size)
    refine hK.out _ _ (fun _ => hBe) ?_
    (try simp only [Act.put, List.setIfInBounds_toArray, List.set_cons_zero, List.set_cons_succ])
    clear hK K
    clear ho1 ho2 hb4
    repeat (first | (apply ord_tk rfl (by rfl) (by rfl) (by rfl); (focus (intro wx hSw; have r0 := (hSw.cell (p := ⟨w.heap.size, 0, none⟩) hszW).trans q0; have r1 := (hSw.cell (p := ⟨w.heap.size, 1, none⟩) hszW).trans q1; have r2 := (hSw.cell (p := ⟨w.heap.size, 2, none⟩) hszW).trans q2; have r3 := (hSw.cell (p := ⟨w.heap.size + 1, 0, none⟩) hszW1).trans p0; have r4 := (hSw.cell (p := ⟨w.heap.size + 1, 1, none⟩) hszW1).trans p1; have r5 := (hSw.cell (p := ⟨w.heap.size + 1, 2, none⟩) hszW1).trans p2; go_simp; (try with_reducible rfl))); (try simp only [Act.put, List.setIfInBounds_toArray, List.set_cons_zero, List.set_cons_succ])) | (apply ord_skip rfl (by rfl) (by rfl) (fun _ => hBe); (try simp only [Act.put, List.setIfInBounds_toArray, List.set_cons_zero, List.set_cons_succ])))
    refine ord_do rfl (by rfl) (by rfl) (fun K hK => ?_)
    go_simp
    refine (HSUM.out _ _ _ _ _ _ _ _ _ _ _ _ _ ((hs1.below hBe).more hBe.size) ((hg1.below hBe).more hBe.size) sn1 sn2).mono ?_
    rintro e w6 ⟨v1, v2, rfl, ho1, ho2, -, hb6⟩
    obtain ⟨SA, sc, rfl, ss1⟩ := ho1.sl HR1.out
    obtain ⟨SB, se, rfl, ss2⟩ := ho2.sl HR2.out
    replace hBe := hBe.trans (hb6.mono hBe.size)
    refine hK.out _ _ (fun _ => hBe) ?_
    (try simp only [Act.put, List.setIfInBounds_toArray, List.set_cons_zero, List.set_cons_succ])
    clear hK K
    clear ho1 ho2 hb6
    repeat (first | (apply ord_tk rfl (by rfl) (by rfl) (by rfl); (focus (intro wx hSw; have r0 := (hSw.cell (p := ⟨w.heap.size, 0, none⟩) hszW).trans q0; have r1 := (hSw.cell (p := ⟨w.heap.size, 1, none⟩) hszW).trans q1; have r2 := (hSw.cell (p := ⟨w.heap.size, 2, none⟩) hszW).trans q2; have r3 := (hSw.cell (p := ⟨w.heap.size + 1, 0, none⟩) hszW1).trans p0; have r4 := (hSw.cell (p := ⟨w.heap.size + 1, 1, none⟩) hszW1).trans p1; have r5 := (hSw.cell (p := ⟨w.heap.size + 1, 2, none⟩) hszW1).trans p2; go_simp; (try with_reducible rfl))); (try simp only [Act.put, List.setIfInBounds_toArray, List.set_cons_zero, List.set_cons_succ])) | (apply ord_skip rfl (by rfl) (by rfl) (fun _ => hBe); (try simp only [Act.put, List.setIfInBounds_toArray, List.set_cons_zero, List.set_cons_succ])))
    refine ord_do rfl (by rfl) (by rfl) (fun K hK => ?_)
    go_simp
    refine (l11Lag_any _ _ _ _ o12 _ _ _ _ LL ss1 ss2 HK.out).mono ?_
    rw [hLE.out]
    rintro e w8 ⟨v8, rfl, hV8, hb8⟩
    obtain ⟨G, cg, rfl, sg⟩ := hV8.sl HAR.out
    have hB8 := hBe.trans (hb8.mono hBe.size)
    refine hK.out _ _ (fun _ => hB8) ?_
    (try simp only [Act.put, List.setIfInBounds_toArray, List.set_cons_zero, List.set_cons_succ])
    clear hK K
    replace hBe := hB8
    clear sg hV8 hb8 ss1 ss2 sn1 sn2
    obtain ⟨al, hal2⟩ : ∃ al, (aeL os1 d1 vs1 os2 d2 vs2).length = al := ⟨_, rfl⟩
    have HRR := hide (show aeB os1 d1 vs1 os2 d2 vs2 = decide (0 < al) by rw [← hal2]; exact hR.out)
    rw [hal2]
    clear hal2 hal
    by_cases h0 : 0 < al
    ·have hR2 := hide (show aeB os1 d1 vs1 os2 d2 vs2 = true by rw [HRR.out]; exact decide_eq_true h0)
     have h0i : (0 : Int) < (al : Int) := by omega
     have HH := hide h0
     clear h0
     repeat (first | (apply ord_tk rfl (by rfl) (by rfl) (by rfl); (focus (intro wx hSw; have r0 := (hSw.cell (p := ⟨w.heap.size, 0, none⟩) hszW).trans q0; have r1 := (hSw.cell (p := ⟨w.heap.size, 1, none⟩) hszW).trans q1; have r2 := (hSw.cell (p := ⟨w.heap.size, 2, none⟩) hszW).trans q2; have r3 := (hSw.cell (p := ⟨w.heap.size + 1, 0, none⟩) hszW1).trans p0; have r4 := (hSw.cell (p := ⟨w.heap.size + 1, 1, none⟩) hszW1).trans p1; have r5 := (hSw.cell (p := ⟨w.heap.size + 1, 2, none⟩) hszW1).trans p2; go_simp; (try with_reducible rfl))); (try simp only [Act.put, List.setIfInBounds_toArray, List.set_cons_zero, List.set_cons_succ])) | (apply ord_skip rfl (by rfl) (by rfl) (fun _ => hBe); (try simp only [Act.put, List.setIfInBounds_toArray, List.set_cons_zero, List.set_cons_succ])))
     refine ord_do rfl (by rfl) (by rfl) (fun K hK => ?_)
     go_simp
     refine hK.out _ _ (fun h => absurd h (by omega)) ?_
     (try simp only [Act.put, List.setIfInBounds_toArray, List.set_cons_zero, List.set_cons_succ])
     clear hK K
     refine ord_do rfl (by rfl) (by rfl) (fun K hK => ?_)
     go_simp
     refine hK.out _ _ (fun h => absurd h (by omega)) ?_
     (try simp only [Act.put, List.setIfInBounds_toArray, List.set_cons_zero, List.set_cons_succ])
     clear hK K
     refine ord_nil ?_
     go_wp2_with fail
     refine bodyPost_ret (v := .tuple #[.bool true, .int .i64 0]) (by simp [results, Tryz.results34, go_sem]; have := HH.out; omega) rfl ?_
     exact ⟨by rw [hC.out, hR2.out], hbW.trans (hB8.mono (Nat.le_of_lt hszW))⟩
    ·have hR2 := hide (show aeB os1 d1 vs1 os2 d2 vs2 = false by rw [HRR.out]; exact decide_eq_false h0)
     have h0i : ¬ (0 : Int) < (al : Int) := by omega
     have HH := hide h0
     clear h0
     repeat (first | (apply ord_tk rfl (by rfl) (by rfl) (by rfl); (focus (intro wx hSw; have r0 := (hSw.cell (p := ⟨w.heap.size, 0, none⟩) hszW).trans q0; have r1 := (hSw.cell (p := ⟨w.heap.size, 1, none⟩) hszW).trans q1; have r2 := (hSw.cell (p := ⟨w.heap.size, 2, none⟩) hszW).trans q2; have r3 := (hSw.cell (p := ⟨w.heap.size + 1, 0, none⟩) hszW1).trans p0; have r4 := (hSw.cell (p := ⟨w.heap.size + 1, 1, none⟩) hszW1).trans p1; have r5 := (hSw.cell (p := ⟨w.heap.size + 1, 2, none⟩) hszW1).trans p2; go_simp; (try with_reducible rfl))); (try simp only [Act.put, List.setIfInBounds_toArray, List.set_cons_zero, List.set_cons_succ])) | (apply ord_skip rfl (by rfl) (by rfl) (fun _ => hBe); (try simp only [Act.put, List.setIfInBounds_toArray, List.set_cons_zero, List.set_cons_succ])))
     refine ord_do rfl (by rfl) (by rfl) (fun K hK => ?_)
     go_simp
     refine hK.out _ _ (fun h => absurd h (by omega)) ?_
     (try simp only [Act.put, List.setIfInBounds_toArray, List.set_cons_zero, List.set_cons_succ])
     clear hK K
     refine ord_do rfl (by rfl) (by rfl) (fun K hK => ?_)
     go_simp
     refine hK.out _ _ (fun h => absurd h (by omega)) ?_
     (try simp only [Act.put, List.setIfInBounds_toArray, List.set_cons_zero, List.set_cons_succ])
     clear hK K
     refine ord_nil ?_
     go_wp2_with fail
     refine bodyPost_ret (v := .tuple #[.bool false, .int .i64 0]) (by simp [results, Tryz.results34, go_sem]; have := HH.out; omega) rfl ?_
     exact ⟨by rw [hC.out, hR2.out], hbW.trans (hB8.mono (Nat.le_of_lt hszW))⟩
   ·have hC := hide (show aeC os1 d1 vs1 os2 d2 vs2 = 3 by unfold aeC; rw [if_neg hok]; unfold noC; rw [i1, i2]; rfl)
    have hR := hide (show aeB os1 d1 vs1 os2 d2 vs2 = false by unfold aeB; rw [if_neg hok])
    have hbad : ¬ (prodL os1 * prodL os2 ≤ 16 ∧ os1.length + os2.length ≤ 4) := fun h => hok ⟨hM1, hM2, h⟩
    clear hok
    go_enter Tryz.func34, Tryz.ntmps34
    go_wp2_with fail
    obtain ⟨W, hW⟩ : ∃ W, (w.alloc (.cells #[.slice A1 os1.length c1, .int .i64 (d1 : Int), .slice B1 vs1.length k1] 26)).alloc (.cells #[.slice A2 os2.length c2, .int .i64 (d2 : Int), .slice B2 vs2.length k2] 26) = W := ⟨_, rfl⟩
    have hbW : Below w.heap.size w W := by rw [← hW]; exact (by repeat (first | assumption | exact Below.refl _ _ | apply below_drewN | apply Below.drew | apply Below.alloc | apply Below.setCell | omega | (focus (simp; done)) | (focus (simp; omega))))
    have hsW := hide (show W.heap.size = w.heap.size + 2 by rw [← hW]; simp)
    have hszW : w.heap.size < W.heap.size := by rw [hsW.out]; omega
    have hszW1 : w.heap.size + 1 < W.heap.size := by rw [hsW.out]; omega
    have bM : Blk W w.heap.size 26 #[.slice A1 os1.length c1, .int .i64 (d1 : Int), .slice B1 vs1.length k1] := by rw [← hW]; exact (Blk.new _ _ _).alloc _
    have bN : Blk W (w.heap.size + 1) 26 #[.slice A2 os2.length c2, .int .i64 (d2 : Int), .slice B2 vs2.length k2] := by rw [← hW]; exact Blk.new' _ _ _ _ (by simp)
    rw [hW]
    clear hW
    have hs1 := (h1.below hbW).more (Nat.le_of_lt hszW)
    have hg1 := (g1.below hbW).more (Nat.le_of_lt hszW)
    have hs2 := (h2.below hbW).more (Nat.le_of_lt hszW)
    have hg2 := (g2.below hbW).more (Nat.le_of_lt hszW)
    have q0 := bM.cell 0
    have q1 := bM.cell 1
    have q2 := bM.cell 2
    have p0 := bN.cell 0
    have p1 := bN.cell 1
    have p2 := bN.cell 2
    go_wp2_with fail
    refine (l10Is_v true _ _ _ _ _ _ _ _ _ _ hs1 hg1 (by omega) (by omega) i1).mono ?_
    rintro e w2 ⟨rfl, hb2⟩
    have r0 := (hb2.cell (p := ⟨w.heap.size, 0, none⟩) hszW).trans q0
    have r1 := (hb2.cell (p := ⟨w.heap.size, 1, none⟩) hszW).trans q1
    have r2 := (hb2.cell (p := ⟨w.heap.size, 2, none⟩) hszW).trans q2
    have r3 := (hb2.cell (p := ⟨w.heap.size + 1, 0, none⟩) hszW1).trans p0
    have r4 := (hb2.cell (p := ⟨w.heap.size + 1, 1, none⟩) hszW1).trans p1
    have r5 := (hb2.cell (p := ⟨w.heap.size + 1, 2, none⟩) hszW1).trans p2
    go_wp2_with fail
    refine (l10Is_v true _ _ _ _ _ _ _ _ _ _ ((hs2.below hb2).more hb2.size) ((hg2.below hb2).more hb2.size) (by omega) (by omega) i2).mono ?_
    rintro e w3 ⟨rfl, hb3⟩
    have hB := hb2.trans (hb3.mono hb2.size)
    clear r0 r1 r2 r3 r4 r5 hb2 hb3
    have hb0 : 0 ≤ prodL os1 * prodL os2 := Int.mul_nonneg (by omega) (by omega)
    have hb9 : prodL os1 * prodL os2 ≤ 16 * 16 := Int.mul_le_mul hpp1 hpp2 (by omega) (by omega)
    obtain ⟨P0, hP0⟩ : ∃ P0, prodL os1 * prodL os2 = P0 := ⟨_, rfl⟩
    rw [hP0] at hb0 hb9 hbad
    have s1 : IntKind.i64.wrap (prodL os1 * prodL os2) = P0 := by rw [hP0]; exact wrap_in (by omega) (by omega)
    have s2 : IntKind.i64.wrap ((os1.length : Int) + (os2.length : Int)) = (os1.length : Int) + (os2.length : Int) := wrap_in (by omega) (by omega)
    clear hP0 hQ
    by_cases hP : P0 ≤ 16
    ·have s4 : decide ((16 : Int) < P0) = false := by rw [decide_eq_false_iff_not]; omega
     have s5 : decide ((4 : Int) < (os1.length : Int) + (os2.length : Int)) = true := by rw [decide_eq_true_eq]; omega
     clear hbad
     go_wp2_with fail
     refine wp_region_be [0, 1, 3, 4, 2, 5, 6, 7, 8, 9, 10, 11, 12, 13, 14, 15, 16, 17] 18 W.heap.size W (by kernel_rfl) (by kernel_rfl) (by kernel_rfl) (fun _ _ _ _ _ h => h) hB (fun wd hBe => ?_)
     repeat (first | (apply ord_tk rfl (by rfl) (by rfl) (by rfl); (focus (intro wx hSw; have r0 := (hSw.cell (p := ⟨w.heap.size, 0, none⟩) hszW).trans q0; have r1 := (hSw.cell (p := ⟨w.heap.size, 1, none⟩) hszW).trans q1; have r2 := (hSw.cell (p := ⟨w.heap.size, 2, none⟩) hszW).trans q2; have r3 := (hSw.cell (p := ⟨w.heap.size + 1, 0, none⟩) hszW1).trans p0; have r4 := (hSw.cell (p := ⟨w.heap.size + 1, 1, none⟩) hszW1).trans p1; have r5 := (hSw.cell (p := ⟨w.heap.size + 1, 2, none⟩) hszW1).trans p2; go_simp; (try with_reducible rfl))); (try simp only [Act.put, List.setIfInBounds_toArray, List.set_cons_zero, List.set_cons_succ])) | (apply ord_skip rfl (by rfl) (by rfl) (fun _ => hBe); (try simp only [Act.put, List.setIfInBounds_toArray, List.set_cons_zero, List.set_cons_succ])))
     refine ord_do rfl (by rfl) (by rfl) (fun K hK => ?_)
     go_simp
     refine (((l10Size_any _ _ _ _ _ _ (hs1.below hBe) hG1).mono fun _ _ h => Qt.re h)).mono ?_
     rintro e wd' ⟨rfl, hwd⟩
     replace hBe := hBe.trans (hwd.mono hBe.size)
     clear hwd
     refine hK.out _ _ (fun _ => hBe) ?_
     (try simp only [Act.put, List.setIfInBounds_toArray, List.set_cons_zero, List.set_cons_succ])
     clear hK K
     repeat (first | (apply ord_tk rfl (by rfl) (by rfl) (by rfl); (focus (intro wx hSw; have r0 := (hSw.cell (p := ⟨w.heap.size, 0, none⟩) hszW).trans q0; have r1 := (hSw.cell (p := ⟨w.heap.size, 1, none⟩) hszW).trans q1; have r2 := (hSw.cell (p := ⟨w.heap.size, 2, none⟩) hszW).trans q2; have r3 := (hSw.cell (p := ⟨w.heap.size + 1, 0, none⟩) hszW1).trans p0; have r4 := (hSw.cell (p := ⟨w.heap.size + 1, 1, none⟩) hszW1).trans p1; have r5 := (hSw.cell (p := ⟨w.heap.size + 1, 2, none⟩) hszW1).trans p2; go_simp; (try with_reducible rfl))); (try simp only [Act.put, List.setIfInBounds_toArray, List.set_cons_zero, List.set_cons_succ])) | (apply ord_skip rfl (by rfl) (by rfl) (fun _ => hBe); (try simp only [Act.put, List.setIfInBounds_toArray, List.set_cons_zero, List.set_cons_succ])))
     refine ord_do rfl (by rfl) (by rfl) (fun K hK => ?_)
     go_simp
     refine (((l10Size_any _ _ _ _ _ _ (hs2.below hBe) hG2).mono fun _ _ h => Qt.re h)).mono ?_
     rintro e wd' ⟨rfl, hwd⟩
     replace hBe := hBe.trans (hwd.mono hBe.size)
     clear hwd
     refine hK.out _ _ (fun _ => hBe) ?_
     (try simp only [Act.put, List.setIfInBounds_toArray, List.set_cons_zero, List.set_cons_succ])
     clear hK K
     repeat (first | (apply ord_tk rfl (by rfl) (by rfl) (by rfl); (focus (intro wx hSw; have r0 := (hSw.cell (p := ⟨w.heap.size, 0, none⟩) hszW).trans q0; have r1 := (hSw.cell (p := ⟨w.heap.size, 1, none⟩) hszW).trans q1; have r2 := (hSw.cell (p := ⟨w.heap.size, 2, none⟩) hszW).trans q2; have r3 := (hSw.cell (p := ⟨w.heap.size + 1, 0, none⟩) hszW1).trans p0; have r4 := (hSw.cell (p := ⟨w.heap.size + 1, 1, none⟩) hszW1).trans p1; have r5 := (hSw.cell (p := ⟨w.heap.size + 1, 2, none⟩) hszW1).trans p2; go_simp; (try with_reducible rfl))); (try simp only [Act.put, List.setIfInBounds_toArray, List.set_cons_zero, List.set_cons_succ])) | (apply ord_skip rfl (by rfl) (by rfl) (fun _ => hBe); (try simp only [Act.put, List.setIfInBounds_toArray, List.set_cons_zero, List.set_cons_succ])))
     refine ord_nil ?_
     clear s1 s2 hB
     go_wp2_with fail
     refine bodyPost_ret (v := .tuple #[.bool false, .int .i64 3]) (by simp [results, Tryz.results34, go_sem]) rfl ?_
     exact ⟨by rw [hC.out, hR.out], hbW.trans (hBe.mono (Nat.le_of_lt hszW))⟩
    ·have s4 : decide ((16 : Int) < P0) = true := by rw [decide_eq_true_eq]; omega
     clear hbad
     go_wp2_with fail
     refine wp_region_be [0, 1, 3, 4, 2, 5, 6, 7, 8, 9, 10, 11, 12, 13, 14, 15, 16, 17] 18 W.heap.size W (by kernel_rfl) (by kernel_rfl) (by kernel_rfl) (fun _ _ _ _ _ h => h) hB (fun wd hBe => ?_)
     repeat (first | (apply ord_tk rfl (by rfl) (by rfl) (by rfl); (focus (intro wx hSw; have r0 := (hSw.cell (p := ⟨w.heap.size, 0, none⟩) hszW).trans q0; have r1 := (hSw.cell (p := ⟨w.heap.size, 1, none⟩) hszW).trans q1; have r2 := (hSw.cell (p := ⟨w.heap.size, 2, none⟩) hszW).trans q2; have r3 := (hSw.cell (p := ⟨w.heap.size + 1, 0, none⟩) hszW1).trans p0; have r4 := (hSw.cell (p := ⟨w.heap.size + 1, 1, none⟩) hszW1).trans p1; have r5 := (hSw.cell (p := ⟨w.heap.size + 1, 2, none⟩) hszW1).trans p2; go_simp; (try with_reducible rfl))); (try simp only [Act.put, List.setIfInBounds_toArray, List.set_cons_zero, List.set_cons_succ])) | (apply ord_skip rfl (by rfl) (by rfl) (fun _ => hBe); (try simp only [Act.put, List.setIfInBounds_toArray, List.set_cons_zero, List.set_cons_succ])))
     refine ord_do rfl (by rfl) (by rfl) (fun K hK => ?_)
     go_simp
     refine (((l10Size_any _ _ _ _ _ _ (hs1.below hBe) hG1).mono fun _ _ h => Qt.re h)).mono ?_
     rintro e wd' ⟨rfl, hwd⟩
     replace hBe := hBe.trans (hwd.mono hBe.size)
     clear hwd
     refine hK.out _ _ (fun _ => hBe) ?_
     (try simp only [Act.put, List.setIfInBounds_toArray, List.set_cons_zero, List.set_cons_succ])
     clear hK K
     repeat (first | (apply ord_tk rfl (by rfl) (by rfl) (by rfl); (focus (intro wx hSw; have r0 := (hSw.cell (p := ⟨w.heap.size, 0, none⟩) hszW).trans q0; have r1 := (hSw.cell (p := ⟨w.heap.size, 1, none⟩) hszW).trans q1; have r2 := (hSw.cell (p := ⟨w.heap.size, 2, none⟩) hszW).trans q2; have r3 := (hSw.cell (p := ⟨w.heap.size + 1, 0, none⟩) hszW1).trans p0; have r4 := (hSw.cell (p := ⟨w.heap.size + 1, 1, none⟩) hszW1).trans p1; have r5 := (hSw.cell (p := ⟨w.heap.size + 1, 2, none⟩) hszW1).trans p2; go_simp; (try with_reducible rfl))); (try simp only [Act.put, List.setIfInBounds_toArray, List.set_cons_zero, List.set_cons_succ])) | (apply ord_skip rfl (by rfl) (by rfl) (fun _ => hBe); (try simp only [Act.put, List.setIfInBounds_toArray, List.set_cons_zero, List.set_cons_succ])))
     refine ord_do rfl (by rfl) (by rfl) (fun K hK => ?_)
     go_simp
     refine (((l10Size_any _ _ _ _ _ _ (hs2.below hBe) hG2).mono fun _ _ h => Qt.re h)).mono ?_
     rintro e wd' ⟨rfl, hwd⟩
     replace hBe := hBe.trans (hwd.mono hBe.size)
     clear hwd
     refine hK.out _ _ (fun _ => hBe) ?_
     (try simp only [Act.put, List.setIfInBounds_toArray, List.set_cons_zero, List.set_cons_succ])
     clear hK K
     repeat (first | (apply ord_tk rfl (by rfl) (by rfl) (by rfl); (focus (intro wx hSw; have r0 := (hSw.cell (p := ⟨w.heap.size, 0, none⟩) hszW).trans q0; have r1 := (hSw.cell (p := ⟨w.heap.size, 1, none⟩) hszW).trans q1; have r2 := (hSw.cell (p := ⟨w.heap.size, 2, none⟩) hszW).trans q2; have r3 := (hSw.cell (p := ⟨w.heap.size + 1, 0, none⟩) hszW1).trans p0; have r4 := (hSw.cell (p := ⟨w.heap.size + 1, 1, none⟩) hszW1).trans p1; have r5 := (hSw.cell (p := ⟨w.heap.size + 1, 2, none⟩) hszW1).trans p2; go_simp; (try with_reducible rfl))); (try simp only [Act.put, List.setIfInBounds_toArray, List.set_cons_zero, List.set_cons_succ])) | (apply ord_skip rfl (by rfl) (by rfl) (fun _ => hBe); (try simp only [Act.put, List.setIfInBounds_toArray, List.set_cons_zero, List.set_cons_succ])))
     refine ord_nil ?_
     clear s1 s2 hB
     go_wp2_with fail
     refine bodyPost_ret (v := .tuple #[.bool false, .int .i64 3]) (by simp [results, Tryz.results34, go_sem]) rfl ?_
     exact ⟨by rw [hC.out, hR.out], hbW.trans (hBe.mono (Nat.le_of_lt hszW))⟩
end Go.Proofs.YtbpihnpakolooaaGreatDoor
