
/- The walk of l12Conjugation where the metric is degenerate: there is none. -/
import Derived.Test.YtlhfjfpgoaiijaaDM4
import Derived.WalkLawsBesides
import Derived.Deep.DeepCutAuto
namespace Go.Proofs.Ytlhfjfpgoaiijaa
open Go Go.RowKit Grp
set_option linter.unusedSimpArgs false
set_option linter.unusedVariables false
set_option maxRecDepth 100000
set_option maxHeartbeats 8000000 in
theorem l12Conjugation_no (w : World) (b off n c : Nat) (b1 o1 c1 : Nat → Nat) (f : Nat → Nat → Int) (A' : Option Addr) (c' : Nat) (ts : List Int) (V : Vq w w.heap.size n b off b1 o1 c1 f) (hT : Sl w w.heap.size A' n c' ts) (hn : n ≤ 16) (hp : 0 < n) (hc : n ≤ c) (hf : ∀ i j, i < n → j < n → InP (f i j))
    (N : Int) (hw : whS n f = N) (h00 : tmS n f f 0 0 = N) (k0 : Nat) (k1 : 0 < k0) (k2 : k0 < n) (hk0 : tmS n f f 0 k0 ≠ 0) :
    Calls Try.prog 55 #[.agg #[.slice (some ⟨b, off, none⟩) n c, .slice A' n c']] w (Re w (.slice none 0 0)) := by
  have HW0 := hide hw
  have H00 := hide h00
  have HK0 := hide hk0
  clear hw h00 hk0
  go_enter Try.func55, Try.ntmps55
  go_wp2_with fail
  obtain ⟨W, hW⟩ : ∃ W, w.alloc (.cells #[.slice (some ⟨b, off, none⟩) n c, .slice A' n c'] 28) = W := ⟨_, rfl⟩
  have hbW : Below w.heap.size w W := by rw [← hW]; exact (by repeat (first | assumption | exact Below.refl _ _ | apply below_drewN | apply Below.drew | apply Below.alloc | apply Below.setCell | omega | (focus (simp; done)) | (focus (simp; omega))))
  have hszW : W.heap.size = w.heap.size + 1 := by rw [← hW]; simp
  have q0 : W.cell? ⟨w.heap.size, 0, none⟩ = some (.slice (some ⟨b, off, none⟩) n c) := by rw [← hW]; exact (Blk.new _ _ _).cell 0
  have q1 : W.cell? ⟨w.heap.size, 1, none⟩ = some (.slice A' n c') := by rw [← hW]; exact (Blk.new _ _ _).cell 1
  rw [hW]
  clear hW
  replace V := V.all hbW
  replace hT := (hT.below hbW).more hbW.size
  have hlW : w.heap.size < W.heap.size := by omega
  have HTm := hide (fun wd (h : Below W.heap.size W wd) => l12Times_any wd b off n c b1 o1 c1 f b off c b1 o1 c1 f (V.all h) (V.all h) hn hp hc hc hf hf)
  have HWh := hide (fun wd (h : Below W.heap.size W wd) => l12Whole_any wd b off n c b1 o1 c1 f A' c' ts (V.all h) ((hT.below h).more h.size) hn hp hc hf)
  go_upto_region 1 with fail
  go_cut [3, 4, 5] (fun s3 s4 s5 wx => ∃ vq g fp, s3 = vq ∧ s4 = .int .i64 (whS n f) ∧ s5 = .slice (some ⟨g, 0, none⟩) 0 0 ∧ E2 wx vq (mat n (tmS n f f)) fp ∧ (∀ b, fp b → b ≠ g) ∧ W.heap.size ≤ g ∧ Ow wx W.heap.size (.slice (some ⟨g, 0, none⟩) 0 0) [] ∧ Below W.heap.size W wx)
  case first =>
    refine wp_region_bt (.one 0 (.one 1 (.one 2 (.one 3 (.one 5 (.two 4 (.two 6 (.one 8 (.one 9 (.one 7 (.one 10 .nil)))) 7 (.one 6 (.one 8 (.one 9 (.one 10 .nil))))) 7 (.one 4 (.one 6 (.one 8 (.one 9 (.one 10 .nil))))))))))) 11 W.heap.size W (by kernel_rfl) (by kernel_rfl) (by kernel_rfl) (fun _ _ _ _ _ h => h) (Below.refl _ _) (fun wd hBe => ?_)
    repeat (first | (apply ot_tk rfl (by rfl) (by rfl) (by rfl); (focus (intro wx hSw; have r0 := (hSw.cell (p := ⟨w.heap.size, 0, none⟩) hlW).trans q0; have r1 := (hSw.cell (p := ⟨w.heap.size, 1, none⟩) hlW).trans q1; go_simp; (try with_reducible rfl))); (try simp only [Act.put, List.setIfInBounds_toArray, List.set_cons_zero, List.set_cons_succ])) | (apply ot_skip rfl (by rfl) (by rfl) (fun _ => hBe); (try simp only [Act.put, List.setIfInBounds_toArray, List.set_cons_zero, List.set_cons_succ])))
    refine ot_two ?_ ?_
    · skip
      (refine ot_do rfl (by rfl) (by rfl) (fun K hK => ?_); go_simp; refine (HTm.out _ hBe).mono ?_; rintro e wt ⟨vq, rfl, hE, hb2⟩; have zT := hb2.size; (try replace hO := hO.below hb2); replace hBe := hBe.trans (hb2.mono hBe.size); clear hb2; refine hK.out _ _ (fun _ => hBe) ?_; (try simp only [Act.put, List.setIfInBounds_toArray, List.set_cons_zero, List.set_cons_succ]); clear hK K)
      repeat (first | (apply ot_tk rfl (by rfl) (by rfl) (by rfl); (focus (intro wx hSw; have r0 := (hSw.cell (p := ⟨w.heap.size, 0, none⟩) hlW).trans q0; have r1 := (hSw.cell (p := ⟨w.heap.size, 1, none⟩) hlW).trans q1; go_simp; (try with_reducible rfl))); (try simp only [Act.put, List.setIfInBounds_toArray, List.set_cons_zero, List.set_cons_succ])) | (apply ot_skip rfl (by rfl) (by rfl) (fun _ => hBe); (try simp only [Act.put, List.setIfInBounds_toArray, List.set_cons_zero, List.set_cons_succ])))
      refine ot_two ?_ ?_
      · skip
        (refine ot_do rfl (by rfl) (by rfl) (fun K hK => ?_); go_simp; refine (HWh.out _ hBe).mono ?_; rintro e wh ⟨rfl, hb2⟩; have zW := hb2.size; (try replace hO := hO.below hb2); replace hE := E2.below hE hb2; replace hBe := hBe.trans (hb2.mono hBe.size); clear hb2; refine hK.out _ _ (fun _ => hBe) ?_; (try simp only [Act.put, List.setIfInBounds_toArray, List.set_cons_zero, List.set_cons_succ]); clear hK K)
        repeat (first | (apply ot_tk rfl (by rfl) (by rfl) (by rfl); (focus (intro wx hSw; have r0 := (hSw.cell (p := ⟨w.heap.size, 0, none⟩) hlW).trans q0; have r1 := (hSw.cell (p := ⟨w.heap.size, 1, none⟩) hlW).trans q1; go_simp; (try with_reducible rfl))); (try simp only [Act.put, List.setIfInBounds_toArray, List.set_cons_zero, List.set_cons_succ])) | (apply ot_skip rfl (by rfl) (by rfl) (fun _ => hBe); (try simp only [Act.put, List.setIfInBounds_toArray, List.set_cons_zero, List.set_cons_succ])))
        (refine ot_do rfl (by rfl) (by rfl) (fun K hK => ?_); go_simp; obtain ⟨g, hg⟩ : ∃ g, wh.heap.size = g := ⟨_, rfl⟩; have hO : Ow (wh.alloc (.cells #[] 2)) W.heap.size (.slice (some ⟨g, 0, none⟩) 0 0) [] := Ow.made' _ _ _ _ hg rfl (Nat.le_trans hBe.size (Nat.le_of_eq hg)) rfl (Nat.zero_le _); have hgW : W.heap.size ≤ g := Nat.le_trans hBe.size (Nat.le_of_eq hg); have hb2 : Below wh.heap.size wh (wh.alloc (.cells #[] 2)) := (Below.refl _ _).alloc (Nat.le_refl _) _; have zA : g < (wh.alloc (.cells #[] 2)).heap.size := Nat.lt_of_lt_of_le (Nat.lt_succ_of_le (Nat.le_of_eq hg.symm)) (by simp); (try replace hE := E2.below hE hb2); replace hBe := hBe.trans (hb2.mono hBe.size); clear hb2; obtain ⟨wa, hwa⟩ : ∃ wa, wh.alloc (.cells #[] 2) = wa := ⟨_, rfl⟩; rw [hg]; rw [hwa] at hO hBe zA ⊢; (try rw [hwa] at hE); clear hwa; refine hK.out _ _ (fun _ => hBe) ?_; (try simp only [Act.put, List.setIfInBounds_toArray, List.set_cons_zero, List.set_cons_succ]); clear hK K)
        repeat (first | (apply ot_tk rfl (by rfl) (by rfl) (by rfl); (focus (intro wx hSw; have r0 := (hSw.cell (p := ⟨w.heap.size, 0, none⟩) hlW).trans q0; have r1 := (hSw.cell (p := ⟨w.heap.size, 1, none⟩) hlW).trans q1; go_simp; (try with_reducible rfl))); (try simp only [Act.put, List.setIfInBounds_toArray, List.set_cons_zero, List.set_cons_succ])) | (apply ot_skip rfl (by rfl) (by rfl) (fun _ => hBe); (try simp only [Act.put, List.setIfInBounds_toArray, List.set_cons_zero, List.set_cons_succ])))
        refine ot_nil ?_
        go_wp2_with fail
        go_meet
        exact ⟨vq, g, _, rfl, rfl, rfl, hE, fun b hb => by omega, hgW, hO, hBe⟩
      · skip
        (refine ot_do rfl (by rfl) (by rfl) (fun K hK => ?_); go_simp; obtain ⟨g, hg⟩ : ∃ g, wt.heap.size = g := ⟨_, rfl⟩; have hO : Ow (wt.alloc (.cells #[] 2)) W.heap.size (.slice (some ⟨g, 0, none⟩) 0 0) [] := Ow.made' _ _ _ _ hg rfl (Nat.le_trans hBe.size (Nat.le_of_eq hg)) rfl (Nat.zero_le _); have hgW : W.heap.size ≤ g := Nat.le_trans hBe.size (Nat.le_of_eq hg); have hb2 : Below wt.heap.size wt (wt.alloc (.cells #[] 2)) := (Below.refl _ _).alloc (Nat.le_refl _) _; have zA : g < (wt.alloc (.cells #[] 2)).heap.size := Nat.lt_of_lt_of_le (Nat.lt_succ_of_le (Nat.le_of_eq hg.symm)) (by simp); (try replace hE := E2.below hE hb2); replace hBe := hBe.trans (hb2.mono hBe.size); clear hb2; obtain ⟨wa, hwa⟩ : ∃ wa, wt.alloc (.cells #[] 2) = wa := ⟨_, rfl⟩; rw [hg]; rw [hwa] at hO hBe zA ⊢; (try rw [hwa] at hE); clear hwa; refine hK.out _ _ (fun _ => hBe) ?_; (try simp only [Act.put, List.setIfInBounds_toArray, List.set_cons_zero, List.set_cons_succ]); clear hK K)
        repeat (first | (apply ot_tk rfl (by rfl) (by rfl) (by rfl); (focus (intro wx hSw; have r0 := (hSw.cell (p := ⟨w.heap.size, 0, none⟩) hlW).trans q0; have r1 := (hSw.cell (p := ⟨w.heap.size, 1, none⟩) hlW).trans q1; go_simp; (try with_reducible rfl))); (try simp only [Act.put, List.setIfInBounds_toArray, List.set_cons_zero, List.set_cons_succ])) | (apply ot_skip rfl (by rfl) (by rfl) (fun _ => hBe); (try simp only [Act.put, List.setIfInBounds_toArray, List.set_cons_zero, List.set_cons_succ])))
        (refine ot_do rfl (by rfl) (by rfl) (fun K hK => ?_); go_simp; refine (HWh.out _ hBe).mono ?_; rintro e wh ⟨rfl, hb2⟩; have zW := hb2.size; (try replace hO := hO.below hb2); replace hE := E2.below hE hb2; replace hBe := hBe.trans (hb2.mono hBe.size); clear hb2; refine hK.out _ _ (fun _ => hBe) ?_; (try simp only [Act.put, List.setIfInBounds_toArray, List.set_cons_zero, List.set_cons_succ]); clear hK K)
        repeat (first | (apply ot_tk rfl (by rfl) (by rfl) (by rfl); (focus (intro wx hSw; have r0 := (hSw.cell (p := ⟨w.heap.size, 0, none⟩) hlW).trans q0; have r1 := (hSw.cell (p := ⟨w.heap.size, 1, none⟩) hlW).trans q1; go_simp; (try with_reducible rfl))); (try simp only [Act.put, List.setIfInBounds_toArray, List.set_cons_zero, List.set_cons_succ])) | (apply ot_skip rfl (by rfl) (by rfl) (fun _ => hBe); (try simp only [Act.put, List.setIfInBounds_toArray, List.set_cons_zero, List.set_cons_succ])))
        refine ot_nil ?_
        go_wp2_with fail
        go_meet
        exact ⟨vq, g, _, rfl, rfl, rfl, hE, fun b hb => by omega, hgW, hO, hBe⟩
    · skip
      (refine ot_do rfl (by rfl) (by rfl) (fun K hK => ?_); go_simp; obtain ⟨g, hg⟩ : ∃ g, wd.heap.size = g := ⟨_, rfl⟩; have hO : Ow (wd.alloc (.cells #[] 2)) W.heap.size (.slice (some ⟨g, 0, none⟩) 0 0) [] := Ow.made' _ _ _ _ hg rfl (Nat.le_trans hBe.size (Nat.le_of_eq hg)) rfl (Nat.zero_le _); have hgW : W.heap.size ≤ g := Nat.le_trans hBe.size (Nat.le_of_eq hg); have hb2 : Below wd.heap.size wd (wd.alloc (.cells #[] 2)) := (Below.refl _ _).alloc (Nat.le_refl _) _; have zA : g < (wd.alloc (.cells #[] 2)).heap.size := Nat.lt_of_lt_of_le (Nat.lt_succ_of_le (Nat.le_of_eq hg.symm)) (by simp); (try replace hE := E2.below hE hb2); replace hBe := hBe.trans (hb2.mono hBe.size); clear hb2; obtain ⟨wa, hwa⟩ : ∃ wa, wd.alloc (.cells #[] 2) = wa := ⟨_, rfl⟩; rw [hg]; rw [hwa] at hO hBe zA ⊢; (try rw [hwa] at hE); clear hwa; refine hK.out _ _ (fun _ => hBe) ?_; (try simp only [Act.put, List.setIfInBounds_toArray, List.set_cons_zero, List.set_cons_succ]); clear hK K)
      repeat (first | (apply ot_tk rfl (by rfl) (by rfl) (by rfl); (focus (intro wx hSw; have r0 := (hSw.cell (p := ⟨w.heap.size, 0, none⟩) hlW).trans q0; have r1 := (hSw.cell (p := ⟨w.heap.size, 1, none⟩) hlW).trans q1; go_simp; (try with_reducible rfl))); (try simp only [Act.put, List.setIfInBounds_toArray, List.set_cons_zero, List.set_cons_succ])) | (apply ot_skip rfl (by rfl) (by rfl) (fun _ => hBe); (try simp only [Act.put, List.setIfInBounds_toArray, List.set_cons_zero, List.set_cons_succ])))
      (refine ot_do rfl (by rfl) (by rfl) (fun K hK => ?_); go_simp; refine (HTm.out _ hBe).mono ?_; rintro e wt ⟨vq, rfl, hE, hb2⟩; have zT := hb2.size; (try replace hO := hO.below hb2); replace hBe := hBe.trans (hb2.mono hBe.size); clear hb2; refine hK.out _ _ (fun _ => hBe) ?_; (try simp only [Act.put, List.setIfInBounds_toArray, List.set_cons_zero, List.set_cons_succ]); clear hK K)
      repeat (first | (apply ot_tk rfl (by rfl) (by rfl) (by rfl); (focus (intro wx hSw; have r0 := (hSw.cell (p := ⟨w.heap.size, 0, none⟩) hlW).trans q0; have r1 := (hSw.cell (p := ⟨w.heap.size, 1, none⟩) hlW).trans q1; go_simp; (try with_reducible rfl))); (try simp only [Act.put, List.setIfInBounds_toArray, List.set_cons_zero, List.set_cons_succ])) | (apply ot_skip rfl (by rfl) (by rfl) (fun _ => hBe); (try simp only [Act.put, List.setIfInBounds_toArray, List.set_cons_zero, List.set_cons_succ])))
      (refine ot_do rfl (by rfl) (by rfl) (fun K hK => ?_); go_simp; refine (HWh.out _ hBe).mono ?_; rintro e wh ⟨rfl, hb2⟩; have zW := hb2.size; (try replace hO := hO.below hb2); replace hE := E2.below hE hb2; replace hBe := hBe.trans (hb2.mono hBe.size); clear hb2; refine hK.out _ _ (fun _ => hBe) ?_; (try simp only [Act.put, List.setIfInBounds_toArray, List.set_cons_zero, List.set_cons_succ]); clear hK K)
      repeat (first | (apply ot_tk rfl (by rfl) (by rfl) (by rfl); (focus (intro wx hSw; have r0 := (hSw.cell (p := ⟨w.heap.size, 0, none⟩) hlW).trans q0; have r1 := (hSw.cell (p := ⟨w.heap.size, 1, none⟩) hlW).trans q1; go_simp; (try with_reducible rfl))); (try simp only [Act.put, List.setIfInBounds_toArray, List.set_cons_zero, List.set_cons_succ])) | (apply ot_skip rfl (by rfl) (by rfl) (fun _ => hBe); (try simp only [Act.put, List.setIfInBounds_toArray, List.set_cons_zero, List.set_cons_succ])))
      refine ot_nil ?_
      go_wp2_with fail
      go_meet
      exact ⟨vq, g, _, rfl, rfl, rfl, hE, fun b hb => by omega, hgW, hO, hBe⟩
  case rest =>
    obtain ⟨vq, g, fp, rfl, rfl, rfl, hE, hsep, hgW, hO, hBe⟩ := hcut
    obtain ⟨bq, oq, cq, rfl, hcq⟩ := sq_form hE hp
    clear HTm HWh
    rw [HW0.out]
    obtain ⟨b2, o2, c2, U⟩ := sq_view hE hp
    have hUs := U.sl hp (fun j _ => tmS_in n f f 0 j)
    have z0 := (U.h1 0 hp).1
    have z2 := (U.h1 0 hp).2.2
    simp only [Nat.add_zero] at z0
    have HI := hide (l01Index_any wc _ _ _ _ _ N hUs (by omega))
    have hix : idxF ((List.range n).map (tmS n f f 0)) N = 0 := idxF_at (k := 0) (by simpa using hp) (by rw [gi_row hp]; exact H00.out) (fun j hj => absurd hj (by omega))
    rw [hix] at HI
    have HU := hide (fun z (hz : z < n) => U.h2 0 z hp hz)
    have q1' := (hBe.cell (p := ⟨w.heap.size, 1, none⟩) hlW).trans q1
    clear hUs U hix hE hsep hO
    go_wp2_with fail
    go_loopw [6] (fun i wr => i = .int .i64 0 ∧ wc = wr) (fun i _ => n - (intOf i).toNat)
    case atStart => exact ⟨rfl, rfl⟩
    case round =>
      obtain ⟨rfl, rfl⟩ := hrel
      go_wp2_with fail
      refine HI.out.mono ?_
      rintro e w' ⟨rfl, m, rfl⟩
      clear HI
      replace z0 : (wc.drewN m).cell? ⟨bq, oq, none⟩ = some (.slice (some ⟨b2 0, o2 0, none⟩) n (c2 0)) := z0
      replace HU := hide (show ∀ z, z < n → (wc.drewN m).cell? ⟨b2 0, o2 0 + z, none⟩ = some (.int .i64 (tmS n f f 0 z)) from HU.out)
      replace q1' : (wc.drewN m).cell? ⟨w.heap.size, 1, none⟩ = some (.slice A' n c') := q1'
      have hB2 := below_drewN hBe m
      obtain ⟨w2, hw2⟩ : ∃ w2, wc.drewN m = w2 := ⟨_, rfl⟩
      rw [hw2] at z0 HU q1' hB2 ⊢
      clear hw2 hBe
      go_wp2_with fail
      go_loopw [8] (fun kk wy => ∃ z : Nat, z ≤ k0 ∧ kk = .int .i64 z ∧ ∃ m, w2.drewN m = wy) (fun kk _ => n - (intOf kk).toNat)
      case atStart => exact ⟨0, by omega, rfl, 0, rfl⟩
      case round =>
        obtain ⟨z, hz, rfl, m2, rfl⟩ := hrel
        have hlz : z < n := by omega
        have v0 := HU.out z hlz
        by_cases hz0 : z = 0
        · subst hz0
          go_wp2_with fail
          go_roundw
          case rel => exact ⟨1, by omega, by go_num, _, rfl⟩
          case measure => simp [intOf] <;> omega
        · have t1 : ((z : Int) != 0) = true := by simp; omega
          obtain ⟨v, hv⟩ : ∃ v, tmS n f f 0 z = v := ⟨_, rfl⟩
          rw [hv] at v0
          have HV := hide hv
          clear hv
          by_cases hv0 : v = 0
          · have hne : z ≠ k0 := fun e => HK0.out (by rw [← e, HV.out]; exact hv0)
            have t2 : (v != 0) = false := by simp [hv0]
            have hz1 : z + 1 ≤ k0 := by omega
            clear hv0 hne
            go_wp2_with fail
            go_roundw
            case rel => exact ⟨z + 1, hz1, by go_num, _, rfl⟩
            case measure => simp [intOf] <;> omega
          · have t2 : (v != 0) = true := by simp [hv0]
            clear hv0
            go_wp2_with fail
            go_ret
            exact ⟨rfl, hbW.trans ((below_drewN hB2 _).mono hbW.size)⟩
end Go.Proofs.Ytlhfjfpgoaiijaa
