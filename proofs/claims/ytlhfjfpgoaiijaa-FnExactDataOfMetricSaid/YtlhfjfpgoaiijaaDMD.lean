
/- The walk of dataOfMetric of the program. -/
import Derived.Test.YtlhfjfpgoaiijaaDMC
import Derived.Test.YtlhfjfpgoaiijaaOtc
import Derived.WalkLawsBesides
namespace Go.Proofs.Ytlhfjfpgoaiijaa
open Go Go.RowKit Grp
set_option linter.unusedSimpArgs false
set_option linter.unusedVariables false
set_option maxRecDepth 100000
set_option maxHeartbeats 16000000 in
theorem dataOfMetric_any (w : World) (A : Option Addr) (n c : Nat) (os : List Int) (d : Nat) (A' : Option Addr) (n' c' : Nat) (vs : List Int) (h : Sl w w.heap.size A n c os) (h' : Sl w w.heap.size A' n' c' vs) (hM : IsM os (d : Int) vs) :
    Calls Try.prog 22 #[.agg #[.slice A n c, .int .i64 d, .slice A' n' c']] w (MkE data_E w (mat vs.length (dS os d vs), dTL d vs vs.length)) := by
  obtain rfl := h'.len
  have hG := hM.ok.g
  have hd1 := hM.ok.d1
  have hd2 := hM.ok.d2
  have hl := hM.ok.len
  have hp16 := hG.p16
  have hge := hG.ge
  have h16 := hM.ok.lt
  have hpos : 0 < vs.length := by omega
  have HL := hide hl
  have HM := hide hM
  clear hl hM
  obtain ⟨bv, ov, rfl, hbv, hcv⟩ := h'.at_ hpos
  have hcapv := h'.cap
  have HCV := hide hcv
  clear hcv
  go_enter Try.func22, Try.ntmps22
  go_wp2_with fail
  obtain ⟨W, hW⟩ : ∃ W, (w.alloc (.cells #[.slice A n c, .int .i64 d, .slice (some ⟨bv, ov, none⟩) vs.length c'] 31)).alloc (.cells #[.slice none 0 0, .slice none 0 0] 28) = W := ⟨_, rfl⟩
  have hbW : Below w.heap.size w W := by rw [← hW]; exact (by repeat (first | assumption | exact Below.refl _ _ | apply below_drewN | apply Below.drew | apply Below.alloc | apply Below.setCell | omega | (focus (simp; done)) | (focus (simp; omega))))
  have hszW : W.heap.size = w.heap.size + 2 := by rw [← hW]; simp
  have bM : Blk W w.heap.size 31 #[.slice A n c, .int .i64 d, .slice (some ⟨bv, ov, none⟩) vs.length c'] := by rw [← hW]; exact (Blk.new _ _ _).alloc _
  have bR : Blk W (w.heap.size + 1) 28 #[.slice none 0 0, .slice none 0 0] := by rw [← hW]; exact Blk.new' _ _ _ _ (by simp)
  rw [hW]
  clear hW
  have hlM : w.heap.size < W.heap.size := by omega
  have HQ := hide (fun wx (hx : Below W.heap.size W wx) => bM.all hx)
  have HS := hide (fun wx (hx : Below W.heap.size W wx) => (h.below (hbW.trans (hx.mono hbW.size))).more (Nat.le_trans hbW.size hx.size))
  have HVs := hide (fun wx (hx : Below W.heap.size W wx) => (h'.below (hbW.trans (hx.mono hbW.size))).more (Nat.le_trans hbW.size hx.size))
  have HV := hide (fun wx (hx : Below W.heap.size W wx) (k : Nat) (hk : k < vs.length) => ((hbW.trans (hx.mono hbW.size)).cell (p := ⟨bv, ov + k, none⟩) hbv).trans (HCV.out k hk))
  have hD0 : DtH W (w.heap.size + 2) (.slice none 0 0) (.slice none 0 0) (.slice none 0 0) (.slice none 0 0) (rowsF vs.length (dS os d vs) 0) (dTL d vs 0) (fun _ => False) (W.alloc (.cells #[.slice none 0 0, .slice none 0 0] 28)) :=
    ⟨Blk.new' _ _ _ _ hszW, ⟨⟨[], fun _ _ => False, World.ownsRow_nil _ _ _ _, rfl, fun k u x h => by simp at h, fun _ _ _ h => h.elim, fun _ _ h => h.elim⟩, fun b hb => by simp [Value.ownBlock] at hb, fun b hb => hb.elim⟩, Ow.nil _ _, fun b hb => hb.elim, by omega, (Below.refl _ _).alloc (Nat.le_refl _) _⟩
  refine (size_any _ _ _ _ _ _).mono ?_
  rintro e w2 ⟨rfl, hb2⟩
  replace hD0 := hD0.bel hb2
  clear hb2 bM
  go_wp2_with fail
  go_loopw [10] (fun i wr => ∃ (k : Nat) (vS vT : Value) (fS : Nat → Prop), k ≤ vs.length ∧ i = .int .i64 k ∧ DtH W (w.heap.size + 2) vS vT vS vT (rowsF vs.length (dS os d vs) k) (dTL d vs k) fS wr) (fun i _ => vs.length - (intOf i).toNat)
  case atStart => exact ⟨0, _, _, _, by omega, rfl, hD0⟩
  case round =>
    clear hD0
    obtain ⟨x, vS, vT, fS, hx, rfl, hD⟩ := hrel
    have hzr := hD.below.size
    by_cases hlx : x < vs.length
    · obtain ⟨w5, rfl⟩ : ∃ w5, w5 = wr := ⟨_, rfl⟩
      have hm := HQ.out _ hD.below
      have m0 := hm.cell 0
      have m1 := hm.cell 1
      have m2 := hm.cell 2
      have l5 : w.heap.size < w5.heap.size := Nat.lt_of_lt_of_le hlM hzr
      have hR0 : Ow (w5.alloc (.cells #[] 2)) w5.heap.size (.slice (some ⟨w5.heap.size, 0, none⟩) 0 0) ((List.range 0).map (dS os d vs x)) := Ow.made' _ _ _ _ rfl rfl (Nat.le_refl _) rfl (Nat.zero_le _)
      have hR1 : Below w5.heap.size w5 (w5.alloc (.cells #[] 2)) := (Below.refl _ _).alloc (Nat.le_refl _) _
      go_wp2_with fail
      refine (size_any _ _ _ _ _ _).mono ?_
      rintro e w6 ⟨rfl, hb6⟩
      replace hR0 := hR0.below hb6
      replace hR1 := hR1.trans (hb6.mono hR1.size)
      clear hb6
      go_wp2_with fail
      go_loopw [5, 16] (fun r j wx => ∃ (y : Nat) (vr : Value), y ≤ vs.length ∧ j = .int .i64 y ∧ vr = r ∧ Ow wx w5.heap.size vr ((List.range y).map (dS os d vs x)) ∧ Below w5.heap.size w5 wx) (fun _ j _ => vs.length - (intOf j).toNat)
      case atStart => exact ⟨0, _, by omega, rfl, rfl, hR0, hR1⟩
      case round =>
        clear hR0 hR1
        obtain ⟨y, vr, hy, rfl, rfl, hO, hBx⟩ := hrel
        have hsx := hBx.size
        by_cases hly : y < vs.length
        · have hxp : (x : Int) < prodL os := by have := HL.out; omega
          have hyp : (y : Int) < prodL os := by have := HL.out; omega
          have hBW := fun wd (hd : Below w5.heap.size w5 wd) => hD.below.trans (hd.mono hzr)
          have HP := hide (fun wd (hd : Below w5.heap.size w5 wd) => pair_any wd A n c os d (some ⟨bv, ov, none⟩) vs.length c' vs x y (HS.out _ (hBW _ hd)) (HVs.out _ (hBW _ hd)) HM.out.ok hxp hyp)
          have hpr := Pr_rng HM.out.ok (x : Int) y
          have hdi := dS_rng HM.out x y
          obtain ⟨p, hp⟩ : ∃ p, Pr os d vs x y = p := ⟨_, rfl⟩
          rw [hp] at HP hpr
          have HR := hide (fun wd => rootPower_any wd A n c d (some ⟨bv, ov, none⟩) vs.length c' (-p) (by omega) (by omega))
          have hval : ((rp d (-p) : Nat) : Int) = dS os d vs x y := by unfold dS; rw [hp, Int.toNat_natCast]
          rw [hval] at HR
          have HQw := hide (rowR_snoc (dS os d vs x) y)
          obtain ⟨t, ht⟩ : ∃ t, dS os d vs x y = t := ⟨_, rfl⟩
          rw [ht] at HR HQw hdi
          have t1 : IntKind.i64.wrap (-p) = -p := wrap_in (by omega) (by omega)
          have hln : ((List.range y).map (dS os d vs x)).length = y := by simp
          clear hp hval ht hpr hxp hyp
          go_wp2_with fail
          refine wp_region_ord [0, 1, 2, 3, 4, 5, 6, 7, 8, 9, 10] 10 (fun w' => Below w5.heap.size w5 w') (by kernel_rfl) (by kernel_rfl) (by kernel_rfl) (fun _ _ _ _ _ h => h) (hBx.drew) ?_
          have hO2 := hO.drew
          have hB2 := hBx.drew
          obtain ⟨wc, hwc⟩ : ∃ wc, wr.drew = wc := ⟨_, rfl⟩
          rw [hwc] at hO2 hB2 ⊢
          clear hwc hO
          repeat (apply ord_take rfl (by rfl) (by rfl); (focus (intro wx hSw; have s0 := (hSw.cell (p := ⟨w.heap.size, 0, none⟩) l5).trans m0; have s1 := (hSw.cell (p := ⟨w.heap.size, 1, none⟩) l5).trans m1; have s2 := (hSw.cell (p := ⟨w.heap.size, 2, none⟩) l5).trans m2; go_simp; (try with_reducible rfl))); (try simp only [Act.put, List.setIfInBounds_toArray, List.set_cons_zero, List.set_cons_succ]))
          refine ord_do rfl (by rfl) (by rfl) (fun K hK => ?_)
          go_simp
          refine (HP.out _ hB2).mono ?_
          rintro e wa ⟨rfl, hba⟩
          replace hO2 := hO2.below hba
          replace hB2 := hB2.trans (hba.mono hB2.size)
          refine hK.out _ _ (fun _ => hB2) ?_
          (try simp only [Act.put, List.setIfInBounds_toArray, List.set_cons_zero, List.set_cons_succ])
          clear hK K
          clear hba
          repeat (apply ord_take rfl (by rfl) (by rfl); (focus (intro wx hSw; have s0 := (hSw.cell (p := ⟨w.heap.size, 0, none⟩) l5).trans m0; have s1 := (hSw.cell (p := ⟨w.heap.size, 1, none⟩) l5).trans m1; have s2 := (hSw.cell (p := ⟨w.heap.size, 2, none⟩) l5).trans m2; go_simp; (try with_reducible rfl))); (try simp only [Act.put, List.setIfInBounds_toArray, List.set_cons_zero, List.set_cons_succ]))
          refine ord_do rfl (by rfl) (by rfl) (fun K hK => ?_)
          go_simp
          refine (HR.out _).mono ?_
          rintro e wb ⟨rfl, hba⟩
          replace hO2 := hO2.below hba
          replace hB2 := hB2.trans (hba.mono hB2.size)
          refine hK.out _ _ (fun _ => hB2) ?_
          (try simp only [Act.put, List.setIfInBounds_toArray, List.set_cons_zero, List.set_cons_succ])
          clear hK K
          clear hba
          repeat (apply ord_take rfl (by rfl) (by rfl); (focus (intro wx hSw; have s0 := (hSw.cell (p := ⟨w.heap.size, 0, none⟩) l5).trans m0; have s1 := (hSw.cell (p := ⟨w.heap.size, 1, none⟩) l5).trans m1; have s2 := (hSw.cell (p := ⟨w.heap.size, 2, none⟩) l5).trans m2; go_simp; (try with_reducible rfl))); (try simp only [Act.put, List.setIfInBounds_toArray, List.set_cons_zero, List.set_cons_succ]))
          refine ord_do rfl (by rfl) (by rfl) (fun K hK => ?_)
          go_simp
          have hs2 := hB2.size
          have hB3 := hB2.alloc hs2 (.cells #[.int .i64 t] 2)
          refine hK.out _ _ (fun _ => hB3) ?_
          (try simp only [Act.put, List.setIfInBounds_toArray, List.set_cons_zero, List.set_cons_succ])
          clear hK K
          repeat (apply ord_take rfl (by rfl) (by rfl); (focus (intro wx hSw; have s0 := (hSw.cell (p := ⟨w.heap.size, 0, none⟩) l5).trans m0; have s1 := (hSw.cell (p := ⟨w.heap.size, 1, none⟩) l5).trans m1; have s2 := (hSw.cell (p := ⟨w.heap.size, 2, none⟩) l5).trans m2; go_simp; (try with_reducible rfl))); (try simp only [Act.put, List.setIfInBounds_toArray, List.set_cons_zero, List.set_cons_succ]))
          refine ord_do rfl (by rfl) (by rfl) (fun K hK => ?_)
          refine wp_push _ _ _ (by rfl) w5.heap.size vr _ (by rfl) (hO2.alloc _) t wb.heap.size _ (by rfl) (Blk.new _ _ _) (by rw [hln]; omega) (by simp; omega) (by simp) ?_
          intro g9 cap w7 hP
          have hB7 := hB3.trans (hP.below (hO2.alloc _) (by simp; omega))
          have hO7 := hP.own
          rw [HQw.out, hln] at hO7
          rw [hln]
          refine hK.out _ _ (fun _ => hB7) ?_
          (try simp only [Act.put, List.setIfInBounds_toArray, List.set_cons_zero, List.set_cons_succ])
          clear hK K
          repeat (apply ord_take rfl (by rfl) (by rfl); (focus (intro wx hSw; have s0 := (hSw.cell (p := ⟨w.heap.size, 0, none⟩) l5).trans m0; have s1 := (hSw.cell (p := ⟨w.heap.size, 1, none⟩) l5).trans m1; have s2 := (hSw.cell (p := ⟨w.heap.size, 2, none⟩) l5).trans m2; go_simp; (try with_reducible rfl))); (try simp only [Act.put, List.setIfInBounds_toArray, List.set_cons_zero, List.set_cons_succ]))
          refine ord_do rfl (by rfl) (by rfl) (fun K hK => ?_)
          go_simp
          refine hK.out _ _ (fun h => absurd h (by omega)) ?_
          (try simp only [Act.put, List.setIfInBounds_toArray, List.set_cons_zero, List.set_cons_succ])
          clear hK K
          refine ord_nil ?_
          clear hP hO2 hB2 hB3 hs2
          go_wp2_with fail
          go_roundw
          case rel => exact ⟨y + 1, _, by omega, by go_num, rfl, hO7, hB7⟩
          case measure => simp [intOf] <;> omega
        · obtain ⟨ny, hny⟩ : ∃ ny, vs.length = ny := ⟨_, rfl⟩
          obtain rfl : y = vs.length := by omega
          clear hny
          have hE := E1.of_owq hO (rowR_ok fun j _ => dS_rng HM.out x j)
          have hD5 := hD.bel hBx
          obtain ⟨Ar', cr, rfl⟩ := hO.val
          have hTl := hD.t.lt
          have hgl := hD.blk.lt
          rw [List.length_map, List.length_range] at hO hE ⊢
          have hcv := HV.out _ hD5.below x hlx
          have hvr := HM.out.ok.rng _ (gi_mem hlx)
          obtain ⟨kv, hkv⟩ : ∃ kv : Nat, gi vs x = (kv : Int) := ⟨(gi vs x).toNat, by omega⟩
          rw [hkv] at hcv hvr
          have HR := hide (fun wd => rootPower_any wd A n c d (some ⟨bv, ov, none⟩) vs.length c' kv (by omega) (by omega))
          have hval : ((rp d (kv : Int) : Nat) : Int) = dT d vs x := by unfold dT Vl; rw [Int.toNat_natCast, Int.toNat_natCast, hkv]
          rw [hval] at HR
          have HTs := hide (dTL_snoc d vs x)
          obtain ⟨t, ht⟩ : ∃ t, dT d vs x = t := ⟨_, rfl⟩
          rw [ht] at HR HTs
          have hlx' : (x : Int) < (vs.length : Int) := by omega
          have hlen : (rowsF vs.length (dS os d vs) x).length ≤ 1048576 := by rw [rowsF_len]; omega
          have hdis : ∀ b, (w5.heap.size ≤ b ∧ b < wr.heap.size) → ¬ fS b := fun b hb hf => by have := OwL.bd hD.s b hf; omega
          have HC := hide (fun wx (hx : Below W.heap.size W wx) => (⟨(HQ.out _ hx).cell 0, (HQ.out _ hx).cell 1, (HQ.out _ hx).cell 2, (HV.out _ hx x hlx).trans ((HV.out _ hD5.below x hlx).symm.trans hcv)⟩ : wx.cell? ⟨w.heap.size, 0, none⟩ = some (.slice A n c) ∧ wx.cell? ⟨w.heap.size, 1, none⟩ = some (.int .i64 d) ∧ wx.cell? ⟨w.heap.size, 2, none⟩ = some (.slice (some ⟨bv, ov, none⟩) vs.length c') ∧ wx.cell? ⟨bv, ov + x, none⟩ = some (.int .i64 kv)))
          clear hval ht hkv hvr m0 m1 m2 hm hcv hO
          go_wp2_with fail
          refine wp_region_otc (.one 0 (.one 1 (.one 2 (.one 5 (.one 6 (.one 7 (.one 8 (.one 9 (.one 10 (.one 11 (.one 12 (.one 3 (.one 4 (.one 16 (.one 13 (.one 14 (.one 15 (.one 17 (.one 18 (.one 19 .nil)))))))))))))))))))) 17 (fun w' => w'.cell? ⟨w.heap.size + 2, 0, none⟩ = some vS ∧ w'.cell? ⟨w.heap.size + 2, 1, none⟩ = some vT ∧ w'.cell? ⟨w.heap.size, 0, none⟩ = some (.slice A n c) ∧ w'.cell? ⟨w.heap.size, 1, none⟩ = some (.int .i64 d) ∧ w'.cell? ⟨w.heap.size, 2, none⟩ = some (.slice (some ⟨bv, ov, none⟩) vs.length c') ∧ w'.cell? ⟨bv, ov + x, none⟩ = some (.int .i64 kv)) (by kernel_rfl) (by kernel_rfl) (by kernel_rfl) (fun _ _ _ _ _ h => h) ⟨hD5.blk.cell 0, hD5.blk.cell 1, HC.out _ hD5.below.drew⟩ ?_
          have hD6 := hD5.bel ((Below.refl _ _).drew)
          have hE6 := E1.below hE ((Below.refl _ _).drew)
          have hsd : wr.drew.heap.size = wr.heap.size := rfl
          obtain ⟨wd, hwd⟩ : ∃ wd, wr.drew = wd := ⟨_, rfl⟩
          rw [hwd] at hD6 hE6 hsd ⊢
          obtain ⟨S9, hS9⟩ : ∃ S9, wr.heap.size = S9 := ⟨_, rfl⟩
          rw [hS9] at hdis hE6 hsd hsx
          clear hwd hE hD5
          repeat (apply ot_tk rfl (by rfl) (by rfl) (by rfl); (focus (rintro wx ⟨a1, a2, a3, a4, a5, a6⟩; go_simp; (try with_reducible rfl))); (try simp only [Act.put, List.setIfInBounds_toArray, List.set_cons_zero, List.set_cons_succ]))
          refine ot_do rfl (by rfl) (by rfl) (fun K hK => ?_)
          go_simp
          have hba : Below wd.heap.size wd (wd.alloc (.cells #[.slice Ar' vs.length cr] 22)) := (Below.refl _ _).alloc (Nat.le_refl _) _
          have hD7 := hD6.bel hba
          have hE7 := E1.below hE6 hba
          refine hK.out _ _ (fun _ => ⟨hD7.blk.cell 0, hD7.blk.cell 1, HC.out _ hD7.below⟩) ?_
          (try simp only [Act.put, List.setIfInBounds_toArray, List.set_cons_zero, List.set_cons_succ])
          clear hK K
          repeat (apply ot_tk rfl (by rfl) (by rfl) (by rfl); (focus (rintro wx ⟨a1, a2, a3, a4, a5, a6⟩; go_simp; (try with_reducible rfl))); (try simp only [Act.put, List.setIfInBounds_toArray, List.set_cons_zero, List.set_cons_succ]))
          refine ot_do rfl (by rfl) (by rfl) (fun K hK => ?_)
          refine wp_pushRow _ _ _ (by rfl) vS _ fS (by rfl) hD7.s (.slice Ar' vs.length cr) _ _ hE7 hdis rfl S9 _ (by rfl) (Blk.new' _ _ _ _ hsd) hlen (by simp [hsd]) ?_
          intro g9 cap w8 hL8 hg8 h38 hl8
          have hD8 := hD7.pushS (H := S9) (by omega) (fun b hb => ⟨by omega, fun e => by have := hTl b e; omega, by omega⟩) (by simp [hsd]) (fun b hb => by have := hTl b hb; omega) hL8 hg8 h38
          rw [rowsF_succ] at hD8
          rw [rowsF_len] at hD8 ⊢
          refine hK.out _ _ (fun _ => ⟨hD8.blk.cell 0, hD8.blk.cell 1, HC.out _ hD8.below⟩) ?_
          (try simp only [Act.put, List.setIfInBounds_toArray, List.set_cons_zero, List.set_cons_succ])
          clear hK K
          clear hD7 hE7 hL8 hg8 h38 hD6 hE6 hdis hba
          repeat (apply ot_tk rfl (by rfl) (by rfl) (by rfl); (focus (rintro wx ⟨a1, a2, a3, a4, a5, a6⟩; go_simp; (try with_reducible rfl))); (try simp only [Act.put, List.setIfInBounds_toArray, List.set_cons_zero, List.set_cons_succ]))
          refine ot_do rfl (by rfl) (by rfl) (fun K hK => ?_)
          go_simp
          refine (HR.out _).mono ?_
          rintro e wf ⟨rfl, hbf⟩
          have hD9 := hD8.bel hbf
          refine hK.out _ _ (fun _ => ⟨hD9.blk.cell 0, hD9.blk.cell 1, HC.out _ hD9.below⟩) ?_
          (try simp only [Act.put, List.setIfInBounds_toArray, List.set_cons_zero, List.set_cons_succ])
          clear hK K
          clear hD8 hbf
          repeat (apply ot_tk rfl (by rfl) (by rfl) (by rfl); (focus (rintro wx ⟨a1, a2, a3, a4, a5, a6⟩; go_simp; (try with_reducible rfl))); (try simp only [Act.put, List.setIfInBounds_toArray, List.set_cons_zero, List.set_cons_succ]))
          refine ot_do rfl (by rfl) (by rfl) (fun K hK => ?_)
          go_simp
          have hbg : Below wf.heap.size wf (wf.alloc (.cells #[.int .i64 t] 2)) := (Below.refl _ _).alloc (Nat.le_refl _) _
          have hDa := hD9.bel hbg
          refine hK.out _ _ (fun _ => ⟨hDa.blk.cell 0, hDa.blk.cell 1, HC.out _ hDa.below⟩) ?_
          (try simp only [Act.put, List.setIfInBounds_toArray, List.set_cons_zero, List.set_cons_succ])
          clear hK K
          repeat (apply ot_tk rfl (by rfl) (by rfl) (by rfl); (focus (rintro wx ⟨a1, a2, a3, a4, a5, a6⟩; go_simp; (try with_reducible rfl))); (try simp only [Act.put, List.setIfInBounds_toArray, List.set_cons_zero, List.set_cons_succ]))
          refine ot_do rfl (by rfl) (by rfl) (fun K hK => ?_)
          refine wp_push _ _ _ (by rfl) W.heap.size vT _ (by rfl) hDa.t t wf.heap.size _ (by rfl) (Blk.new _ _ _) (by rw [dTL_len]; omega) (by have := hD9.below.size; simp; omega) (by simp) ?_
          intro g8 cap8 wb hP
          have hDb := hDa.pushT (H := wf.heap.size) (by simp) (fun b hb => by have := OwL.bd hD9.s b hb; omega) hP
          rw [HTs.out] at hDb
          rw [dTL_len] at hDb ⊢
          refine hK.out _ _ (fun _ => ⟨hDb.blk.cell 0, hDb.blk.cell 1, HC.out _ hDb.below⟩) ?_
          (try simp only [Act.put, List.setIfInBounds_toArray, List.set_cons_zero, List.set_cons_succ])
          clear hK K
          clear hDa hP hD9 hbg
          repeat (apply ot_tk rfl (by rfl) (by rfl) (by rfl); (focus (rintro wx ⟨a1, a2, a3, a4, a5, a6⟩; go_simp; (try with_reducible rfl))); (try simp only [Act.put, List.setIfInBounds_toArray, List.set_cons_zero, List.set_cons_succ]))
          have f0 := hDb.blk.frozen 0
          have cc0 := hDb.blk.cell 0
          refine ot_do rfl (by rfl) (by rfl) (fun K hK => ?_)
          go_simp
          have hDc := hDb.store0
          have f1 := hDc.blk.frozen 1
          have cc1 := hDc.blk.cell 1
          refine hK.out _ _ (fun h => absurd h (by omega)) ?_
          (try simp only [Act.put, List.setIfInBounds_toArray, List.set_cons_zero, List.set_cons_succ])
          clear hK K
          refine ot_do rfl (by rfl) (by rfl) (fun K hK => ?_)
          go_simp
          refine hK.out _ _ (fun h => absurd h (by omega)) ?_
          (try simp only [Act.put, List.setIfInBounds_toArray, List.set_cons_zero, List.set_cons_succ])
          clear hK K
          refine ot_do rfl (by rfl) (by rfl) (fun K hK => ?_)
          go_simp
          refine hK.out _ _ (fun h => absurd h (by omega)) ?_
          (try simp only [Act.put, List.setIfInBounds_toArray, List.set_cons_zero, List.set_cons_succ])
          clear hK K
          refine ot_nil ?_
          have hDd := hDc.store1
          clear f0 cc0 f1 cc1 hDb hDc hD hsd
          go_wp2_with fail
          go_roundw
          case rel => exact ⟨x + 1, _, _, _, by omega, by go_num, hDd⟩
          case measure => simp [intOf] <;> omega
    · obtain rfl : x = vs.length := by omega
      obtain ⟨bs, os', cs, rfl, hcs⟩ := sq_form hD.s hpos
      obtain ⟨At, ct, hvt, -⟩ := hD.t.sl (inP_all (dTL_in HM.out _))
      rw [dTL_len] at hvt
      subst hvt
      have r0 := hD.blk.cell 0
      have r1 := hD.blk.cell 1
      have bR3 := bR.all hD.below
      have hB3 := hbW.trans (hD.below.mono hbW.size)
      have rr0 := bR3.cell 0
      have rr1 := bR3.cell 1
      have rf0 := bR3.frozen 0
      have rf1 := bR3.frozen 1
      have hBz := ((hB3.setCell (p := ⟨w.heap.size + 1, 0, none⟩) (by simp) (.slice (some ⟨bs, os', none⟩) vs.length cs)).setCell (p := ⟨w.heap.size + 1, 1, none⟩) (by simp) (.slice At vs.length ct))
      have b5 := (bR3.store 0 (.slice (some ⟨bs, os', none⟩) vs.length cs)).store 1 (.slice At vs.length ct)
      have s0 := b5.cell 0
      have s1 := b5.cell 1
      have HE := hide (data_two (a := (.slice (some ⟨bs, os', none⟩) vs.length cs)) (b := (.slice At vs.length ct)) (g := w.heap.size + 1) (lo2 := w.heap.size) (hD.fin (inP_all (dTL_in HM.out _)) (Nat.le_refl _)) (by omega) (by simp [World.setCell]) (by omega))
      clear hD bR3
      go_wp2_with fail
      refine bodyPost_ret (v := .agg #[(.slice (some ⟨bs, os', none⟩) vs.length cs), (.slice At vs.length ct)]) (by simp [results, Try.results22, go_sem, s0, s1]) rfl ?_
      exact ⟨_, rfl, HE.out, hBz⟩
end Go.Proofs.Ytlhfjfpgoaiijaa
