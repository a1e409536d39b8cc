
/- The walk of DataOfMetric of the reference. -/
import Derived.Test.YtlhfjfpgoaiijaaDMB
import Derived.Test.YtlhfjfpgoaiijaaDmk
import Derived.Test.YtlhfjfpgoaiijaaGCq
import Derived.Test.YtlhfjfpgoaiijaaP2
import Derived.Test.YtlhfjfpgoaiijaaP3
import Derived.Test.YtlhfjfpgoaiijaaEa
import Derived.Test.YtlhfjfpgoaiijaaR2
import Derived.Test.YtlhfjfpgoaiijaaKM
import Derived.WalkLawsBesides
namespace Go.Proofs.Ytlhfjfpgoaiijaa
open Go Go.RowKit Grp
set_option linter.unusedSimpArgs false
set_option linter.unusedVariables false
set_option maxRecDepth 100000
theorem OkG.h {os : List Int} (h : OkG os) : OkHq os := ⟨h.l1, by have := h.l4; omega, fun m hm => by have := h.m2 m hm; omega, h.p16⟩
/-- What DataOfMetric returns. -/
noncomputable def daX (x : metric_T) : data_T := if ndgM x.1 x.2.1 x.2.2 = true then (mat x.2.2.length (dS x.1 x.2.1 x.2.2), dTL x.2.1 x.2.2 x.2.2.length) else ([], [])
noncomputable def daK (x : metric_T) : Int := if isM x.1 x.2.1 x.2.2 = true then if ndgM x.1 x.2.1 x.2.2 = true then 0 else 5 else 1
theorem ndgM_iff {os vs : List Int} {D : Int} (hM : IsM os D vs) : ndgM os D vs = true ↔ Ndg os D vs := by
  unfold ndgM
  rw [isM_t hM, Bool.true_and, decide_eq_true_eq]
  exact ndg_iff hM
theorem daX_no {x : metric_T} (h : isM x.1 x.2.1 x.2.2 = false) : daX x = ([], []) := by
  unfold daX ndgM; rw [h]; simp
theorem daK_no {x : metric_T} (h : isM x.1 x.2.1 x.2.2 = false) : daK x = 1 := by unfold daK; rw [h]; simp
theorem daX_bad {x : metric_T} (h : IsM x.1 x.2.1 x.2.2) (hn : ¬ Ndg x.1 x.2.1 x.2.2) : daX x = ([], []) := by
  unfold daX; rw [if_neg fun h' => hn ((ndgM_iff h).1 h')]
theorem daK_bad {x : metric_T} (h : IsM x.1 x.2.1 x.2.2) (hn : ¬ Ndg x.1 x.2.1 x.2.2) : daK x = 5 := by
  unfold daK; rw [if_pos (isM_t h), if_neg fun h' => hn ((ndgM_iff h).1 h')]
theorem daX_ok {x : metric_T} (h : IsM x.1 x.2.1 x.2.2) (hn : Ndg x.1 x.2.1 x.2.2) : daX x = (mat x.2.2.length (dS x.1 x.2.1 x.2.2), dTL x.2.1 x.2.2 x.2.2.length) := by
  unfold daX; rw [if_pos ((ndgM_iff h).2 hn)]
theorem daK_ok {x : metric_T} (h : IsM x.1 x.2.1 x.2.2) (hn : Ndg x.1 x.2.1 x.2.2) : daK x = 0 := by
  unfold daK; rw [if_pos (isM_t h), if_pos ((ndgM_iff h).2 hn)]
/-- The reference's number at two elements. -/
theorem dS_pow {os vs : List Int} {D : Nat} (hM : IsM os D vs) {x y : Nat} {v vx vy : Int} (hv : Vl vs (Ar os x y) = v) (hx : Vl vs x = vx) (hy : Vl vs y = vy) : ((2 * (D : Int) - (v - vx - vy)) % D) = ((-(Pr os D vs x y)) % (D : Int)) := by
  unfold Pr
  rw [hv, hx, hy, neg_neg_mod]
  rw [show 2 * (D : Int) - (v - vx - vy) = -(v - vx - vy) + D * 2 by omega, Int.add_mul_emod_self_left]
theorem dTL_snoc (D : Int) (vs : List Int) (k : Nat) : dTL D vs k ++ [dT D vs k] = dTL D vs (k + 1) := rowR_snoc _ _
theorem dTL_len (D : Int) (vs : List Int) (k : Nat) : (dTL D vs k).length = k := by simp [dTL]
/-- Data done: an owned pair. -/
theorem DtH.fin {W wx : World} {g : Nat} {cS cT vS vT : Value} {rows : List (List Int)} {ts : List Int} {fS : Nat → Prop} (h : DtH W g cS cT vS vT rows ts fS wx) (ht : ∀ x ∈ ts, i64ok x) {lo : Nat} (hlo : lo ≤ W.heap.size) : data_E wx (.agg #[vS, vT]) (rows, ts) (fun b => lo ≤ b ∧ b < wx.heap.size) :=
  ⟨vS, vT, fS, fun b => vT.ownBlock = some b, rfl, h.s, ⟨h.t.less (Nat.zero_le _), ht, fun b hb => hb, fun b hb => (h.t.lt b hb).2⟩, fun b h1 h2 => (h.lo b h1).2.1 h2,
   fun b hb => ⟨Nat.le_trans hlo (h.lo b hb).1, OwL.bd h.s b hb⟩, fun b hb => ⟨Nat.le_trans hlo (h.t.lt b hb).1, (h.t.lt b hb).2⟩, fun b hb => hb.2⟩
theorem data_mono {w : World} {v : Value} {x : data_T} {fp fq : Nat → Prop} (h : data_E w v x fp) (hf : ∀ b, fp b → fq b) (hb : ∀ b, fq b → b < w.heap.size) : data_E w v x fq := by
  obtain ⟨u1, u2, F1, F2, e, h1, h2, a1, s1, s2, _⟩ := h
  exact ⟨u1, u2, F1, F2, e, h1, h2, a1, fun b h => hf b (s1 b h), fun b h => hf b (s2 b h), hb⟩
/-- Two stores to another block leave data as they were. -/
theorem data_two {w : World} {v a b : Value} {x : data_T} {lo g : Nat} (h : data_E w v x (fun k => lo ≤ k ∧ k < w.heap.size)) (hg : g < lo) (hb : w.heap.size = ((w.setCell ⟨g, 0, none⟩ a).setCell ⟨g, 1, none⟩ b).heap.size) {lo2 : Nat} (hl : lo2 ≤ lo) :
    data_E ((w.setCell ⟨g, 0, none⟩ a).setCell ⟨g, 1, none⟩ b) v x (fun k => lo2 ≤ k ∧ k < ((w.setCell ⟨g, 0, none⟩ a).setCell ⟨g, 1, none⟩ b).heap.size) :=
  data_mono (data_kp _ _ _ _ _ h (fun k hk => (Below.heap_setCell _ ⟨g, 1, none⟩ _ k (fun e => by have : g = k := e.symm; omega)).trans (Below.heap_setCell _ ⟨g, 0, none⟩ _ k (fun e => by have : g = k := e.symm; omega))) (by omega)) (fun k hk => ⟨by omega, by omega⟩) (fun k hk => hk.2)
theorem inP_all {xs : List Int} (h : ∀ x ∈ xs, InP x) : ∀ x ∈ xs, i64ok x := fun x hx => by have := h x hx; unfold InP at this; exact ⟨by omega, by omega⟩
set_option maxHeartbeats 16000000 in
theorem spec_Data_any (w : World) (A : Option Addr) (n c : Nat) (os : List Int) (D : Int) (A' : Option Addr) (n' c' : Nat) (vs : List Int) (h : Sl w w.heap.size A n c os) (h' : Sl w w.heap.size A' n' c' vs) (hn : n ≤ 1048576) (hn' : n' ≤ 1048576) :
    Calls Try.prog 5 #[.agg #[.slice A n c, .int .i64 D, .slice A' n' c']] w (MkEC data_E w (daX (os, D, vs)) (daK (os, D, vs))) := by
  obtain rfl := h'.len
  have HI0 := fun W (hW : Below w.heap.size w W) => l10Is_any W A n c os D A' vs.length c' vs ((h.below hW).more hW.size) ((h'.below hW).more hW.size) hn hn'
  cases him : isM os D vs with
  | false =>
    rw [daX_no (x := (os, D, vs)) him, daK_no (x := (os, D, vs)) him]
    rw [him] at HI0
    have HI := hide HI0
    clear HI0 him
    go_enter Try.func5, Try.ntmps5
    go_wp2_with fail
    obtain ⟨W, hW⟩ : ∃ W, (w.alloc (.cells #[.slice A n c, .int .i64 D, .slice A' vs.length c'] 31)).alloc (.cells #[.slice none 0 0, .slice none 0 0] 28) = W := ⟨_, rfl⟩
    have hbW : Below w.heap.size w W := by rw [← hW]; exact (by repeat (first | assumption | exact Below.refl _ _ | apply below_drewN | apply Below.drew | apply Below.alloc | apply Below.setCell | omega | (focus (simp; done)) | (focus (simp; omega))))
    have hszW : W.heap.size = w.heap.size + 2 := by rw [← hW]; simp
    have bM : Blk W w.heap.size 31 #[.slice A n c, .int .i64 D, .slice A' vs.length c'] := by rw [← hW]; exact (Blk.new _ _ _).alloc _
    have bR : Blk W (w.heap.size + 1) 28 #[.slice none 0 0, .slice none 0 0] := by rw [← hW]; exact Blk.new' _ _ _ _ (by simp)
    rw [hW]
    clear hW
    have q0 := bM.cell 0
    have q1 := bM.cell 1
    have q2 := bM.cell 2
    go_wp2_with fail
    refine (HI.out _ hbW).mono ?_
    rintro e w1 ⟨rfl, hb1⟩
    clear q0 q1 q2
    have bR1 := bR.all hb1
    have rr0 := bR1.cell 0
    have rr1 := bR1.cell 1
    have rf0 := bR1.frozen 0
    have rf1 := bR1.frozen 1
    have hb2 := hbW.trans (hb1.mono hbW.size)
    have hb5 := (hb2.setCell (p := ⟨w.heap.size + 1, 0, none⟩) (by simp) (.slice none 0 0)).setCell (p := ⟨w.heap.size + 1, 1, none⟩) (by simp) (.slice none 0 0)
    have b5 := (bR1.store 0 (.slice none 0 0)).store 1 (.slice none 0 0)
    have s0 := b5.cell 0
    have s1 := b5.cell 1
    go_wp2_with fail
    refine bodyPost_ret (v := .tuple #[.agg #[.slice none 0 0, .slice none 0 0], .int .i64 1]) (by simp [results, Try.results5, go_sem, s0, s1]) rfl ?_
    exact ⟨_, rfl, data_none _ _ (fun b hb => hb.2), hb5⟩
  | true =>
    have hM := isM_iff.1 him
    rw [him] at HI0
    have HI := hide HI0
    clear HI0 him
    have hG := hM.ok.g
    have hd1 := hM.ok.d1
    have hd2 := hM.ok.d2
    have hl := hM.ok.len
    have hp16 := hG.p16
    have hge := hG.ge
    have h16 := hM.ok.lt
    have hpos : 0 < vs.length := by omega
    have HL := hide hl
    clear hl
    obtain ⟨d, rfl⟩ : ∃ d : Nat, D = (d : Int) := ⟨D.toNat, by omega⟩
    obtain ⟨X, hX⟩ : ∃ X, daX (os, (d : Int), vs) = X := ⟨_, rfl⟩
    obtain ⟨K, hKK⟩ : ∃ K, daK (os, (d : Int), vs) = K := ⟨_, rfl⟩
    rw [hX, hKK]
    have HX := hide hX
    have HKK := hide hKK
    have HM := hide hM
    obtain ⟨bv, ov, rfl, hbv, hcv⟩ := h'.at_ (by omega)
    have hcapv := h'.cap
    have HCV := hide hcv
    clear hX hKK hM hcv
    go_enter Try.func5, Try.ntmps5
    go_wp2_with fail
    obtain ⟨W, hW⟩ : ∃ W, (w.alloc (.cells #[.slice A n c, .int .i64 (d : Int), .slice (some ⟨bv, ov, none⟩) vs.length c'] 31)).alloc (.cells #[.slice none 0 0, .slice none 0 0] 28) = W := ⟨_, rfl⟩
    have hbW : Below w.heap.size w W := by rw [← hW]; exact (by repeat (first | assumption | exact Below.refl _ _ | apply below_drewN | apply Below.drew | apply Below.alloc | apply Below.setCell | omega | (focus (simp; done)) | (focus (simp; omega))))
    have hszW : W.heap.size = w.heap.size + 2 := by rw [← hW]; simp
    have bM : Blk W w.heap.size 31 #[.slice A n c, .int .i64 (d : Int), .slice (some ⟨bv, ov, none⟩) vs.length c'] := by rw [← hW]; exact (Blk.new _ _ _).alloc _
    have bR : Blk W (w.heap.size + 1) 28 #[.slice none 0 0, .slice none 0 0] := by rw [← hW]; exact Blk.new' _ _ _ _ (by simp)
    rw [hW]
    clear hW
    have q0 := bM.cell 0
    have q1 := bM.cell 1
    have q2 := bM.cell 2
    go_wp2_with fail
    refine (HI.out _ hbW).mono ?_
    rintro e w1 ⟨rfl, hb1⟩
    clear q0 q1 q2
    have bM1 := bM.all hb1
    have q0 := bM1.cell 0
    have q1 := bM1.cell 1
    have q2 := bM1.cell 2
    go_wp2_with fail
    refine (l01Unity_any w1 d (by omega) (by omega)).mono ?_
    rintro e w2 ⟨rfl, hb2⟩
    clear q0 q1 q2
    have hB2 := hb1.trans (hb2.mono hb1.size)
    have hz2 := hB2.size
    have bR2 := bR.all hB2
    have hlM : w.heap.size < w2.heap.size := by omega
    have HQ := hide (fun wx (hx : Below w2.heap.size w2 wx) => (bM1.all hb2).all hx)
    have HS := hide (fun wx (hx : Below w2.heap.size w2 wx) => (h.below (hbW.trans ((hB2.trans (hx.mono hz2)).mono hbW.size))))
    have HV := hide (fun wx (hx : Below w2.heap.size w2 wx) (k : Nat) (hk : k < vs.length) => ((hbW.trans ((hB2.trans (hx.mono hz2)).mono hbW.size)).cell (p := ⟨bv, ov + k, none⟩) hbv).trans (HCV.out k hk))
    clear hb1 hb2 bM1
    have hD0 : DtH w2 w2.heap.size (.slice none 0 0) (.slice none 0 0) (.slice none 0 0) (.slice none 0 0) (rowsF vs.length (dS os d vs) 0) (dTL d vs 0) (fun _ => False) (w2.alloc (.cells #[.slice none 0 0, .slice none 0 0] 28)) :=
      ⟨Blk.new _ _ _, ⟨⟨[], fun _ _ => False, World.ownsRow_nil _ _ _ _, rfl, fun k u x h => by simp at h, fun _ _ _ h => h.elim, fun _ _ h => h.elim⟩, fun b hb => by simp [Value.ownBlock] at hb, fun b hb => hb.elim⟩, Ow.nil _ _, fun b hb => hb.elim, Nat.le_refl _, (Below.refl _ _).alloc (Nat.le_refl _) _⟩
    have HQ0 := (HQ.out _ hD0.below).cell 2
    go_wp2_with fail
    clear HQ0
    go_loopw [7] (fun i wr => ∃ (k : Nat) (vS vT : Value) (fS : Nat → Prop), k ≤ vs.length ∧ i = .int .i64 k ∧ DtH w2 w2.heap.size vS vT vS vT (rowsF vs.length (dS os d vs) k) (dTL d vs k) fS wr) (fun i _ => vs.length - (intOf i).toNat)
    case atStart => exact ⟨0, _, _, _, by omega, rfl, hD0⟩
    case round =>
      clear hD0
      obtain ⟨x, vS, vT, fS, hx, rfl, hD⟩ := hrel
      have hzr := hD.below.size
      by_cases hlx : x < vs.length
      · obtain ⟨w5, rfl⟩ : ∃ w5, w5 = wr := ⟨_, rfl⟩
        have hR0 : Ow (w5.alloc (.cells #[] 2)) w5.heap.size (.slice (some ⟨w5.heap.size, 0, none⟩) 0 0) ((List.range 0).map (dS os d vs x)) := Ow.made' _ _ _ _ rfl rfl (Nat.le_refl _) rfl (Nat.zero_le _)
        go_wp2_with fail
        go_loopw [8, 9] (fun r j wx => ∃ (y : Nat) (vr : Value), y ≤ vs.length ∧ j = .int .i64 y ∧ vr = r ∧ Ow wx w5.heap.size vr ((List.range y).map (dS os d vs x)) ∧ Below w5.heap.size w5 wx) (fun _ j _ => vs.length - (intOf j).toNat)
        case atStart => exact ⟨0, _, by omega, rfl, rfl, hR0, (Below.refl _ _).alloc (Nat.le_refl _) _⟩
        case round =>
          clear hR0
          obtain ⟨y, vr, hy, rfl, rfl, hO, hBx⟩ := hrel
          have hsx := hBx.size
          have hB9 := hD.below.trans (hBx.mono hzr)
          by_cases hly : y < vs.length
          · have hq := HQ.out _ hB9
            have q0 := hq.cell 0
            have q1 := hq.cell 1
            have q2 := hq.cell 2
            obtain ⟨z, hz⟩ : ∃ z : Nat, Ar os x y = (z : Int) := ⟨(Ar os x y).toNat, by have := Ar_rng hG x y; omega⟩
            have hzl : z < vs.length := by have := Ar_rng hG x y; have := HL.out; omega
            have c1 := HV.out _ hB9 x hlx
            have c2 := HV.out _ hB9 y hly
            have c3 := HV.out _ hB9 z hzl
            have v1 := HM.out.ok.rng _ (gi_mem hlx)
            have v2 := HM.out.ok.rng _ (gi_mem hly)
            have v3 := HM.out.ok.rng _ (gi_mem hzl)
            have hpw := dS_pow HM.out (x := x) (y := y) (v := gi vs z) (vx := gi vs x) (vy := gi vs y) (by unfold Vl; rw [hz]; rfl) rfl rfl
            obtain ⟨vx, ex⟩ : ∃ vx, gi vs x = vx := ⟨_, rfl⟩
            obtain ⟨vy, ey⟩ : ∃ vy, gi vs y = vy := ⟨_, rfl⟩
            obtain ⟨vz, ez⟩ : ∃ vz, gi vs z = vz := ⟨_, rfl⟩
            rw [ex] at c1 v1 hpw
            rw [ey] at c2 v2 hpw
            rw [ez] at c3 v3 hpw
            have t1 : IntKind.i64.wrap (vz - vx) = vz - vx := wrap_in (by omega) (by omega)
            have t2' : IntKind.i64.wrap (vz - vx - vy) = vz - vx - vy := wrap_in (by omega) (by omega)
            have t3 : IntKind.i64.wrap (2 * (d : Int)) = 2 * (d : Int) := wrap_in (by omega) (by omega)
            obtain ⟨b, hb⟩ : ∃ b, vz - vx - vy = b := ⟨_, rfl⟩
            have t2 : IntKind.i64.wrap (vz - vx - vy) = b := by rw [t2', hb]
            clear t2'
            rw [hb] at hpw
            have hb0 : -(2 * (d : Int)) < b ∧ b < d := by omega
            have t4 : IntKind.i64.wrap (2 * (d : Int) - b) = 2 * (d : Int) - b := wrap_in (by omega) (by omega)
            have t5 : (2 * (d : Int) - b).tmod d = (2 * (d : Int) - b) % d := Int.tmod_eq_emod_of_nonneg (by omega)
            have t6 : ¬ (d : Int) = 0 := by omega
            have t7 : ¬ d = 0 := by omega
            have e0 := Int.emod_nonneg (2 * (d : Int) - b) (show (d : Int) ≠ 0 by omega)
            have e1 := Int.emod_lt_of_pos (2 * (d : Int) - b) (show 0 < (d : Int) by omega)
            obtain ⟨ke, hke⟩ : ∃ ke : Nat, (2 * (d : Int) - b) % d = (ke : Int) := ⟨((2 * (d : Int) - b) % d).toNat, by omega⟩
            rw [hke] at t5 e1 hpw
            have hval : ((pwr (rtu d) ke : Nat) : Int) = dS os d vs x y := by
              unfold dS rp
              rw [Int.toNat_natCast, ← hpw, Int.toNat_natCast]
            have hke2 : ke ≤ 55440 := by omega
            have HP := hide (fun wd => l01Pow_any wd (rtu d) ke (pwr_lt _ _) (by omega))
            rw [hval] at HP
            have hdi := dS_rng HM.out x y
            have HQw := hide (rowR_snoc (dS os d vs x) y)
            obtain ⟨t, ht⟩ : ∃ t, dS os d vs x y = t := ⟨_, rfl⟩
            rw [ht] at HP HQw hdi
            have HAd := hide (fun wd (hd : Dr wr wd) => l06Add_anyq wd w.heap.size A n c os x y ((HS.out _ hB9).below (hd.below (Below.refl _ _))) hG.h (by omega) (by omega) (by omega) (by omega))
            rw [hz] at HAd
            have hln : ((List.range y).map (dS os d vs x)).length = y := by simp
            have HZ := hide hz
            have HB := hide hb
            clear ex ey ez hpw hval ht hke hz hb v1 v2 v3 e0 e1 hq
            go_wp2_with fail
            refine wp_region_dr [0, 1, 2, 3, 4, 5, 9, 10, 11, 12, 13, 15, 16, 17, 18, 19, 6, 7, 8, 14, 20, 21] 21 wr (by kernel_rfl) (by kernel_rfl) (by kernel_rfl) (fun _ _ _ _ _ h => h) (Dr.refl _) (fun wd hDr => ?_)
            repeat (first | (apply ord_tk rfl (by rfl) (by rfl) (by rfl); (focus (rintro w ⟨dm, rfl⟩; go_simp; (try with_reducible rfl))); (try simp only [Act.put, List.setIfInBounds_toArray, List.set_cons_zero, List.set_cons_succ])) | (apply ord_skip rfl (by rfl) (by rfl) (fun _ => hDr); (try simp only [Act.put, List.setIfInBounds_toArray, List.set_cons_zero, List.set_cons_succ])))
            refine ord_do rfl (by rfl) (by rfl) (fun K hK => ?_)
            go_simp
            refine (HAd.out _ hDr).mono ?_
            rintro e wd' ⟨rfl, dm, hwd⟩
            replace hDr := hDr.step hwd
            clear hwd
            refine hK.out _ _ (fun _ => hDr) ?_
            (try simp only [Act.put, List.setIfInBounds_toArray, List.set_cons_zero, List.set_cons_succ])
            clear hK K
            repeat (first | (apply ord_tk rfl (by rfl) (by rfl) (by rfl); (focus (rintro w ⟨dm, rfl⟩; go_simp; (try with_reducible rfl))); (try simp only [Act.put, List.setIfInBounds_toArray, List.set_cons_zero, List.set_cons_succ])) | (apply ord_skip rfl (by rfl) (by rfl) (fun _ => hDr); (try simp only [Act.put, List.setIfInBounds_toArray, List.set_cons_zero, List.set_cons_succ])))
            refine ord_do rfl (by rfl) (by rfl) (fun K hK => ?_)
            go_simp
            refine hK.out _ _ (fun h => absurd h (by omega)) ?_
            (try simp only [Act.put, List.setIfInBounds_toArray, List.set_cons_zero, List.set_cons_succ])
            clear hK K
            refine ord_nil ?_
            obtain ⟨dm, rfl⟩ := hDr
            replace hO := hO.drewN dm
            replace hBx := below_drewN hBx dm
            replace hsx : w5.heap.size ≤ (wr.drewN dm).heap.size := hsx
            replace q1 : (wr.drewN dm).cell? ⟨w.heap.size, 1, none⟩ = some (.int .i64 d) := q1
            obtain ⟨w6, hw6⟩ : ∃ w6, wr.drewN dm = w6 := ⟨_, rfl⟩
            rw [hw6] at hO hBx hsx q1 ⊢
            clear hw6 q0 q2 c1 c2 c3 hB9
            go_wp2_with fail
            refine (HP.out _).mono ?_
            rintro e w7 ⟨rfl, m7, rfl⟩
            replace hO := hO.drewN m7
            replace hBx := below_drewN hBx m7
            replace hsx : w5.heap.size ≤ (w6.drewN m7).heap.size := hsx
            obtain ⟨w7, hw7⟩ : ∃ w7, w6.drewN m7 = w7 := ⟨_, rfl⟩
            rw [hw7] at hO hBx hsx ⊢
            clear hw7 q1
            go_wp2_with (at_builtin; refine list_push _ rfl _ _ rfl w5.heap.size _ _ rfl (hO.alloc _) t w7.heap.size _ rfl (Blk.new _ _ _) (by rw [hln]; omega) (by simp; omega) (by simp) ?_; intro g9 cap w8 hP)
            have hb8 := (hBx.alloc hsx _).trans (hP.below (hO.alloc _) (by simp; omega))
            have hO8 := hP.own
            rw [HQw.out, List.length_map, List.length_range] at hO8
            go_roundw
            case rel => exact ⟨y + 1, _, by omega, by go_num, rfl, by (try rw [List.length_map, List.length_range]); exact hO8, hb8⟩
            case measure => simp [intOf] <;> omega
          · obtain ⟨ny, hny⟩ : ∃ ny, vs.length = ny := ⟨_, rfl⟩
            obtain rfl : y = vs.length := by omega
            clear hny
            have hE := E1.of_owq hO (rowR_ok fun j _ => dS_rng HM.out x j)
            have hD5 := hD.bel hBx
            obtain ⟨Ar', cr, rfl⟩ := hO.val
            have hTl := hD.t.lt
            have hgl := hD.blk.lt
            rw [List.length_map, List.length_range] at hO hE ⊢
            have hba : Below wr.heap.size wr (wr.alloc (.cells #[.slice Ar' vs.length cr] 22)) := (Below.refl _ _).alloc (Nat.le_refl _) _
            have hD6 := hD5.bel hba
            have hE6 := E1.below hE hba
            have hlen : (rowsF vs.length (dS os d vs) x).length ≤ 1048576 := by rw [rowsF_len]; omega
            have hdis : ∀ b, (w5.heap.size ≤ b ∧ b < wr.heap.size) → ¬ fS b := fun b hb hf => by have := OwL.bd hD.s b hf; omega
            have c0 := hD6.blk.cell 0
            have cc0 := hD5.blk.cell 0
            clear hE hD5
            go_wp2_with (at_builtin; refine list_pushRow _ rfl _ _ rfl vS _ fS rfl hD6.s (.slice Ar' vs.length cr) _ _ hE6 hdis rfl wr.heap.size _ rfl (Blk.new _ _ _) hlen (by simp) ?_; intro g9 cap w8 hL8 hg8 h38 hl8; have hD7 := hD6.pushS (H := wr.heap.size) (by omega) (fun b hb => ⟨by omega, fun e => by have := hTl b e; omega, by omega⟩) (by simp) (fun b hb => by have := hTl b hb; omega) hL8 hg8 h38; have hfz := hD7.blk.frozen 0; have hc0 := hD7.blk.cell 0)
            have hD8 := hD7.store0
            rw [rowsF_succ] at hD8
            rw [rowsF_len] at hD8 ⊢
            obtain ⟨w9, hw9⟩ : ∃ w9, w8.setCell ⟨w2.heap.size, 0, none⟩ (.slice (some ⟨g9, 0, none⟩) (x + 1) cap) = w9 := ⟨_, rfl⟩
            rw [hw9] at hD8 ⊢
            clear hw9 hD7 hfz hc0 hL8 hg8 h38 hl8 hD6 hE6 hO c0 cc0 hba hBx hdis hlen hD hsx hTl hgl hB9
            have hq := (HQ.out _ hD8.below).cell 2
            have hcv := HV.out _ hD8.below x hlx
            have hvr := HM.out.ok.rng _ (gi_mem hlx)
            obtain ⟨kv, hkv⟩ : ∃ kv : Nat, gi vs x = (kv : Int) := ⟨(gi vs x).toNat, by omega⟩
            rw [hkv] at hcv hvr
            have hval : ((pwr (rtu d) kv : Nat) : Int) = dT d vs x := by
              unfold dT rp Vl
              rw [Int.toNat_natCast, Int.toNat_natCast, hkv, Int.emod_eq_of_lt (by omega) (by omega), Int.toNat_natCast]
            have HPT := hide (fun wd => l01Pow_any wd (rtu d) kv (pwr_lt _ _) (by omega))
            rw [hval] at HPT
            have HTs := hide (dTL_snoc d vs x)
            obtain ⟨t, ht⟩ : ∃ t, dT d vs x = t := ⟨_, rfl⟩
            rw [ht] at HPT HTs
            have s1 := hD8.blk.cell 1
            have hlx' : (x : Int) < (vs.length : Int) := by omega
            have hz9 := hD8.below.size
            clear hval ht hkv hvr
            go_wp2_with fail
            refine wp_region_ord [0, 1, 2, 3, 4, 5, 6, 7, 8, 9, 10, 11, 12] 11 (fun w' => w'.cell? ⟨w2.heap.size, 1, none⟩ = some vT ∧ w'.cell? ⟨w.heap.size, 2, none⟩ = some (.slice (some ⟨bv, ov, none⟩) vs.length c') ∧ w'.cell? ⟨bv, ov + x, none⟩ = some (.int .i64 kv)) (by kernel_rfl) (by kernel_rfl) (by kernel_rfl) (fun _ _ _ _ _ h => h) ⟨s1, hq, hcv⟩ ?_
            repeat (apply ord_take rfl (by rfl) (by rfl); (focus (intro w hSw; (try dsimp only at hSw); go_simp; (try with_reducible rfl))); (try simp only [Act.put, List.setIfInBounds_toArray, List.set_cons_zero, List.set_cons_succ]))
            refine ord_do rfl (by rfl) (by rfl) (fun K hK => ?_)
            go_simp
            refine (HPT.out _).mono ?_
            rintro e wa ⟨rfl, ma, rfl⟩
            refine hK.out _ _ (fun _ => ⟨s1, hq, hcv⟩) ?_
            (try simp only [Act.put, List.setIfInBounds_toArray, List.set_cons_zero, List.set_cons_succ])
            clear hK K
            repeat (apply ord_take rfl (by rfl) (by rfl); (focus (intro w hSw; (try dsimp only at hSw); go_simp; (try with_reducible rfl))); (try simp only [Act.put, List.setIfInBounds_toArray, List.set_cons_zero, List.set_cons_succ]))
            refine ord_do rfl (by rfl) (by rfl) (fun K hK => ?_)
            go_simp
            have hBa : Below w9.heap.size w9 ((w9.drewN (1 + ma)).alloc (.cells #[.int .i64 t] 2)) := (below_drewN (Below.refl _ _) _).alloc (Nat.le_refl _) _
            have hDa := hD8.bel hBa
            have hcl : ∀ (p : Addr) v, w9.cell? p = some v → ((w9.drewN (1 + ma)).alloc (.cells #[.int .i64 t] 2)).cell? p = some v := fun p v h => (hBa.cell (World.block_lt_of_cell? _ _ h)).trans h
            refine hK.out _ _ (fun _ => ⟨hcl _ _ s1, hcl _ _ hq, hcl _ _ hcv⟩) ?_
            (try simp only [Act.put, List.setIfInBounds_toArray, List.set_cons_zero, List.set_cons_succ])
            clear hK K
            repeat (apply ord_take rfl (by rfl) (by rfl); (focus (intro w hSw; (try dsimp only at hSw); go_simp; (try with_reducible rfl))); (try simp only [Act.put, List.setIfInBounds_toArray, List.set_cons_zero, List.set_cons_succ]))
            refine ord_do rfl (by rfl) (by rfl) (fun K hK => ?_)
            refine wp_push _ _ _ (by rfl) w2.heap.size vT _ (by rfl) hDa.t t w9.heap.size _ (by rfl) (Blk.new _ _ _) (by rw [dTL_len]; omega) (by simp; omega) (by simp) ?_
            intro g8 cap8 wb hP
            have hDb := hDa.pushT (H := w9.heap.size) (by simp) (fun b hb => by have := OwL.bd hD8.s b hb; omega) hP
            refine hK.out _ _ (fun _ => ⟨hDb.blk.cell 1, (HQ.out _ hDb.below).cell 2, (HV.out _ hDb.below x hlx).trans ((HV.out _ hD8.below x hlx).symm.trans hcv)⟩) ?_
            (try simp only [Act.put, List.setIfInBounds_toArray, List.set_cons_zero, List.set_cons_succ])
            clear hK K
            have f1 := hDb.blk.frozen 1
            have cc1 := hDb.blk.cell 1
            refine ord_do rfl (by rfl) (by rfl) (fun K hK => ?_)
            go_simp
            refine hK.out _ _ (fun h => absurd h (by omega)) ?_
            (try simp only [Act.put, List.setIfInBounds_toArray, List.set_cons_zero, List.set_cons_succ])
            clear hK K
            refine ord_do rfl (by rfl) (by rfl) (fun K hK => ?_)
            go_simp
            refine hK.out _ _ (fun h => absurd h (by omega)) ?_
            (try simp only [Act.put, List.setIfInBounds_toArray, List.set_cons_zero, List.set_cons_succ])
            clear hK K
            refine ord_nil ?_
            have hDc := hDb.store1
            rw [HTs.out] at hDc
            rw [dTL_len] at hDc ⊢
            clear f1 cc1 hDb hDa hP hD8 s1 hq hcv hBa hcl
            go_wp2_with fail
            go_roundw
            case rel => exact ⟨x + 1, _, _, _, by omega, by go_num, hDc⟩
            case measure => simp [intOf] <;> omega
      · obtain rfl : x = vs.length := by omega
        have HM9 := HM.out
        obtain ⟨bs, os', cs, rfl, hcs⟩ := sq_form hD.s hpos
        obtain ⟨bs1, os1, cs1, U⟩ := sq_view hD.s hpos
        obtain ⟨At, ct, hvt, hST⟩ := hD.t.sl (inP_all (dTL_in HM9 _))
        have hlen := dTL_len d vs vs.length
        rw [hlen] at hvt hST
        subst hvt
        have r0 := hD.blk.cell 0
        have r1 := hD.blk.cell 1
        have bR3 := bR2.all hD.below
        have hB3 := hbW.trans ((hB2.trans (hD.below.mono hz2)).mono hbW.size)
        have hR : (wr.heap.size : Nat) = wr.heap.size := rfl
        by_cases hg : Ndg os d vs
        · have HXv := hide (show X = (mat vs.length (dS os d vs), dTL d vs vs.length) from HX.out.symm.trans (daX_ok (x := (os, (d : Int), vs)) HM9 hg))
          have HKv := hide (show K = 0 from HKK.out.symm.trans (daK_ok (x := (os, (d : Int), vs)) HM9 hg))
          have HIs := hide (l12Is_yes wr bs os' vs.length cs bs1 os1 cs1 os d vs At ct HM9 rfl hg U hST hcs)
          clear U hST hG HM9
          go_wp2_with fail
          refine HIs.out.mono ?_
          rintro e wz ⟨rfl, hbz⟩
          have hDz := hD.bel hbz
          have t0 := hDz.blk.cell 0
          have t1 := hDz.blk.cell 1
          have bRz := bR3.all hbz
          have rr0 := bRz.cell 0
          have rr1 := bRz.cell 1
          have rf0 := bRz.frozen 0
          have rf1 := bRz.frozen 1
          have hBz := (((hB3.trans (hbz.mono hB3.size)).setCell (p := ⟨w.heap.size + 1, 0, none⟩) (by simp) (.slice (some ⟨bs, os', none⟩) vs.length cs)).setCell (p := ⟨w.heap.size + 1, 1, none⟩) (by simp) (.slice At vs.length ct))
          have b5 := (bRz.store 0 (.slice (some ⟨bs, os', none⟩) vs.length cs)).store 1 (.slice At vs.length ct)
          have s0 := b5.cell 0
          have s1 := b5.cell 1
          have HE := hide (data_two (a := .slice (some ⟨bs, os', none⟩) vs.length cs) (b := .slice At vs.length ct) (g := w.heap.size + 1) (lo2 := w.heap.size) (hDz.fin (inP_all (dTL_in HM.out _)) (Nat.le_refl _)) (by omega) (by simp [World.setCell]) (by omega))
          clear r0 r1 hD hDz bR3
          go_wp2_with fail
          refine bodyPost_ret (v := .tuple #[.agg #[.slice (some ⟨bs, os', none⟩) vs.length cs, .slice At vs.length ct], .int .i64 0]) (by simp [results, Try.results5, go_sem, s0, s1]) rfl ?_
          rw [HXv.out, HKv.out]
          exact ⟨_, rfl, HE.out, hBz⟩
        · have HXv := hide (show X = ([], []) from HX.out.symm.trans (daX_bad (x := (os, (d : Int), vs)) HM9 hg))
          have HKv := hide (show K = 5 from HKK.out.symm.trans (daK_bad (x := (os, (d : Int), vs)) HM9 hg))
          have HIs := hide (l12Is_no wr bs os' vs.length cs bs1 os1 cs1 os d vs At ct HM9 rfl hg U hST hcs)
          clear U hST hG HM9
          go_wp2_with fail
          refine HIs.out.mono ?_
          rintro e wz ⟨rfl, hbz⟩
          have bRz := bR3.all hbz
          have rr0 := bRz.cell 0
          have rr1 := bRz.cell 1
          have rf0 := bRz.frozen 0
          have rf1 := bRz.frozen 1
          have hBz := (((hB3.trans (hbz.mono hB3.size)).setCell (p := ⟨w.heap.size + 1, 0, none⟩) (by simp) (.slice none 0 0)).setCell (p := ⟨w.heap.size + 1, 1, none⟩) (by simp) (.slice none 0 0))
          have b5 := (bRz.store 0 (.slice none 0 0)).store 1 (.slice none 0 0)
          have s0 := b5.cell 0
          have s1 := b5.cell 1
          clear r0 r1 hD bR3
          go_wp2_with fail
          refine bodyPost_ret (v := .tuple #[.agg #[.slice none 0 0, .slice none 0 0], .int .i64 5]) (by simp [results, Try.results5, go_sem, s0, s1]) rfl ?_
          rw [HXv.out, HKv.out]
          exact ⟨_, rfl, data_none _ _ (fun b hb => hb.2), hBz⟩
end Go.Proofs.Ytlhfjfpgoaiijaa
