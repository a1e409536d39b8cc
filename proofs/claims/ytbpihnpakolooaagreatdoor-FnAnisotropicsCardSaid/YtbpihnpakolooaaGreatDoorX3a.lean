
/- The walk of the program's SumOfMetrics where both are metrics that fit. The walks of SumOfMetrics of both sides, the other cases. -/
import Derived.Test.YtbpihnpakolooaaGreatDoorX2
import Derived.Test.YtbpihnpakolooaaGreatDoorEa
import Derived.WalkLawsBesides
namespace Go.Proofs.YtbpihnpakolooaaGreatDoor
open Go Go.RowKit Grp
set_option linter.unusedSimpArgs false
set_option linter.unusedVariables false

set_option maxHeartbeats 8000000 in
theorem impl_Sum_yes (w : World) (A1 : Option Addr) (n1 c1 : Nat) (os1 : List Int) (D1 : Nat) (B1 : Option Addr) (m1 k1 : Nat) (vs1 : List Int) (A2 : Option Addr) (n2 c2 : Nat) (os2 : List Int) (D2 : Nat) (B2 : Option Addr) (m2 k2 : Nat) (vs2 : List Int)
  (h1 : Sl w w.heap.size A1 n1 c1 os1) (g1 : Sl w w.heap.size B1 m1 k1 vs1) (h2 : Sl w w.heap.size A2 n2 c2 os2) (g2 : Sl w w.heap.size B2 m2 k2 vs2) (hM1 : IsM os1 D1 vs1) (hM2 : IsM os2 D2 vs2) (q e D e1 e2 : Nat) (hQ : SumQ D1 D2 q e D e1 e2)
  (hP : prodL os1 * prodL os2 ≤ 16) (hLn : os1.length + os2.length ≤ 4) :
  Calls Tryz.prog 79 #[.agg #[.slice A1 n1 c1, .int .i64 D1, .slice B1 m1 k1], .agg #[.slice A2 n2 c2, .int .i64 D2, .slice B2 m2 k2]] w (MkM w (os1 ++ os2) D (sumL D e1 e2 vs1 vs2) 0) := by
 obtain ⟨i0, hi0, hz0, hz1, hz2⟩ := info_parts int_info
 obtain rfl := h1.len
 obtain rfl := g1.len
 obtain rfl := h2.len
 obtain rfl := g2.len
 have hok1 := hM1.ok
 have hok2 := hM2.ok
 have hn1 := hok1.g.l4
 have hn2 := hok2.g.l4
 have hp1 := hok1.g.l1
 have hp2 := hok2.g.l1
 have hv1 := hok1.lt
 have hv2 := hok2.lt
 obtain ⟨ab, ao, rfl, hab, _⟩ := h2.at_ hp2
 have D1a := hok1.d1
 have D1b := hok1.d2
 have D2a := hok2.d1
 have D2b := hok2.d2
 have hpp : (vs1.length : Int) * (vs2.length : Int) ≤ 16 := by rw [hok1.len, hok2.len]; exact hP
 have hpp0 : 0 ≤ (vs1.length : Int) * (vs2.length : Int) := Int.mul_nonneg (by omega) (by omega)
 obtain ⟨P0, hP0⟩ : ∃ P0, (vs1.length : Int) * (vs2.length : Int) = P0 := ⟨_, rfl⟩
 rw [hP0] at hpp hpp0
 have s1 : IntKind.i64.wrap ((vs1.length : Int) * (vs2.length : Int)) = P0 := by rw [hP0]; exact wrap_in (by omega) (by omega)
 have s2 : IntKind.i64.wrap ((os1.length : Int) + (os2.length : Int)) = (os1.length : Int) + (os2.length : Int) := wrap_in (by omega) (by omega)
 have s3 : (os1.length : Int) + (os2.length : Int) ≤ 4 := by omega
 have s4 : decide ((16 : Int) < P0) = false := by rw [decide_eq_false_iff_not]; omega
 have s5 : decide ((4 : Int) < (os1.length : Int) + (os2.length : Int)) = false := by rw [decide_eq_false_iff_not]; omega
 have hm1 := isM_t hM1
 have hm2 := isM_t hM2
 clear hP0 hP
 obtain ⟨hQg, Q1, hQd, hQm, hQd1, hQd2, Qb, Qb1, Qe1, Qe2, Qe⟩ := hQ
 have hCom := fun W => gcd_any W D1 D2 (by omega) (by omega)
 rw [hQg] at hCom
 have t1 : (D1 : Int).tdiv q = e := by rw [Int.tdiv_eq_ediv_of_nonneg (by omega), ← hQd]; rfl
 have t1' : (D1 : Int) / q = e := by rw [← hQd]; rfl
 have t2 : IntKind.i64.wrap (e : Int) = e := wrap_in (by omega) (by omega)
 have t3 : IntKind.i64.wrap ((e : Int) * D2) = D := by rw [← Int.natCast_mul, hQm]; exact wrap_in (by omega) (by omega)
 have t4 : (D : Int).tdiv D1 = e1 := by rw [Int.tdiv_eq_ediv_of_nonneg (by omega), ← hQd1]; rfl
 have t4' : (D : Int) / D1 = e1 := by rw [← hQd1]; rfl
 have t5 : (D : Int).tdiv D2 = e2 := by rw [Int.tdiv_eq_ediv_of_nonneg (by omega), ← hQd2]; rfl
 have t5' : (D : Int) / D2 = e2 := by rw [← hQd2]; rfl
 have t6 : IntKind.i64.wrap (e1 : Int) = e1 := wrap_in (by omega) (by omega)
 have t7 : IntKind.i64.wrap (e2 : Int) = e2 := wrap_in (by omega) (by omega)
 have z1 : ¬ (D1 : Int) = 0 := by omega
 have z2 : ¬ (D2 : Int) = 0 := by omega
 have z3 : ¬ (D : Int) = 0 := by omega
 have z4 : ¬ (q : Int) = 0 := by omega
 have z5 : ¬ D1 = 0 := by omega
 have z6 : ¬ D2 = 0 := by omega
 have z7 : ¬ D = 0 := by omega
 have z8 : ¬ q = 0 := by omega
 have hCat := hide (show cat (fun k => if k = 0 then os1 else os2) 2 = os1 ++ os2 by simp [cat, List.range_succ])
 obtain ⟨N, hN⟩ : ∃ N, (os1 ++ os2).length = N := ⟨_, rfl⟩
 have hNN := hide hN
 clear hN
 clear hQg hQd hQm hQd1 hQd2
 go_enter Tryz.func79, Tryz.ntmps79
 go_wp2_with fail
 obtain ⟨W, hW⟩ : ∃ W, ((w.alloc (.cells #[.slice A1 os1.length c1, .int .i64 D1, .slice B1 vs1.length k1] 26)).alloc (.cells #[.slice (some ⟨ab, ao, none⟩) os2.length c2, .int .i64 D2, .slice B2 vs2.length k2] 26)).alloc (.cells #[.slice none 0 0, .int .i64 0, .slice none 0 0] 26) = W := ⟨_, rfl⟩
 have hbW : Below w.heap.size w W := by rw [← hW]; exact (by repeat (first | assumption | exact Below.refl _ _ | apply below_drewN | apply Below.drew | apply Below.alloc | apply Below.setCell | omega | (focus (simp; done)) | (focus (simp; omega))))
 have hsW := hide (show W.heap.size = w.heap.size + 3 by rw [← hW]; simp)
 have hszW : w.heap.size < W.heap.size := by rw [hsW.out]; omega
 have hszW1 : w.heap.size + 1 < W.heap.size := by rw [hsW.out]; omega
 have hszW2 : w.heap.size + 1 + 1 < W.heap.size := by rw [hsW.out]; omega
 have bM : Blk W w.heap.size 26 #[.slice A1 os1.length c1, .int .i64 D1, .slice B1 vs1.length k1] := by rw [← hW]; exact ((Blk.new _ _ _).alloc _).alloc _
 have bN : Blk W (w.heap.size + 1) 26 #[.slice (some ⟨ab, ao, none⟩) os2.length c2, .int .i64 D2, .slice B2 vs2.length k2] := by rw [← hW]; exact (Blk.new' _ _ _ _ (by simp)).alloc _
 have bR : Blk W (w.heap.size + 1 + 1) 26 #[.slice none 0 0, .int .i64 0, .slice none 0 0] := by rw [← hW]; exact Blk.new' _ _ _ _ (by simp)
 have q0 := bM.cell 0
 have q1 := bM.cell 1
 have q2 := bM.cell 2
 have p0 := bN.cell 0
 have p1 := bN.cell 1
 have p2 := bN.cell 2
 rw [hW]
 clear hW
 have hs1 := h1.below hbW
 have hg1 := g1.below hbW
 have hs2 := h2.below hbW
 have hg2 := g2.below hbW
 have hsl1 := hs1.more (Nat.le_of_lt hszW)
 have hgl1 := hg1.more (Nat.le_of_lt hszW)
 have hsl2 := hs2.more (Nat.le_of_lt hszW)
 have hgl2 := hg2.more (Nat.le_of_lt hszW)
 go_wp2_with fail
 refine (implIs_v true _ _ _ _ _ _ _ _ _ _ hsl1 hgl1 (by omega) (by omega) hm1).mono ?_
 rintro e w2 ⟨rfl, hb2⟩
 replace hb2 : Below W.heap.size W w2 := hb2
 have r3 := (hb2.cell (p := ⟨w.heap.size + 1, 0, none⟩) hszW1).trans p0
 have r4 := (hb2.cell (p := ⟨w.heap.size + 1, 1, none⟩) hszW1).trans p1
 have r5 := (hb2.cell (p := ⟨w.heap.size + 1, 2, none⟩) hszW1).trans p2
 go_wp2_with fail
 clear r3 r4 r5
 refine (implIs_v true _ _ _ _ _ _ _ _ _ _ ((hsl2.below hb2).more hb2.size) ((hgl2.below hb2).more hb2.size) (by omega) (by omega) hm2).mono ?_
 rintro e w3 ⟨rfl, hb3⟩
 have k3 := hb2.trans (hb3.mono hb2.size)
 clear hb2 hb3
 go_wp2_with fail
 refine wp_region_be [0, 2, 1, 3, 4, 5, 6, 7, 8, 9, 10, 11, 12, 13, 14, 15] 16 W.heap.size W (by kernel_rfl) (by kernel_rfl) (by kernel_rfl) (fun _ _ _ _ _ h => h) k3 (fun wd hBe => ?_)
 repeat (first | (apply ord_tk rfl (by rfl) (by rfl) (by rfl); (focus (intro wx hSw; have r0 := (hSw.cell (p := ⟨w.heap.size, 0, none⟩) hszW).trans q0; have r1 := (hSw.cell (p := ⟨w.heap.size, 1, none⟩) hszW).trans q1; have r2 := (hSw.cell (p := ⟨w.heap.size, 2, none⟩) hszW).trans q2; have r3 := (hSw.cell (p := ⟨w.heap.size + 1, 0, none⟩) hszW1).trans p0; have r4 := (hSw.cell (p := ⟨w.heap.size + 1, 1, none⟩) hszW1).trans p1; have r5 := (hSw.cell (p := ⟨w.heap.size + 1, 2, none⟩) hszW1).trans p2; go_simp; (try with_reducible rfl))); (try simp only [Act.put, List.setIfInBounds_toArray, List.set_cons_zero, List.set_cons_succ])) | (apply ord_skip rfl (by rfl) (by rfl) (fun _ => hBe); (try simp only [Act.put, List.setIfInBounds_toArray, List.set_cons_zero, List.set_cons_succ])))
 refine ord_do rfl (by rfl) (by rfl) (fun K hK => ?_)
 go_simp
 refine (size_any _ _ _ _ _ _).mono ?_
 rintro e wd' ⟨rfl, hwd⟩
 replace hBe := hBe.trans (hwd.mono hBe.size)
 clear hwd
 refine hK.out _ _ (fun _ => hBe) ?_
 (try simp only [Act.put, List.setIfInBounds_toArray, List.set_cons_zero, List.set_cons_succ])
 clear hK K
 repeat (first | (apply ord_tk rfl (by rfl) (by rfl) (by rfl); (focus (intro wx hSw; have r0 := (hSw.cell (p := ⟨w.heap.size, 0, none⟩) hszW).trans q0; have r1 := (hSw.cell (p := ⟨w.heap.size, 1, none⟩) hszW).trans q1; have r2 := (hSw.cell (p := ⟨w.heap.size, 2, none⟩) hszW).trans q2; have r3 := (hSw.cell (p := ⟨w.heap.size + 1, 0, none⟩) hszW1).trans p0; have r4 := (hSw.cell (p := ⟨w.heap.size + 1, 1, none⟩) hszW1).trans p1; have r5 := (hSw.cell (p := ⟨w.heap.size + 1, 2, none⟩) hszW1).trans p2; go_simp; (try with_reducible rfl))); (try simp only [Act.put, List.setIfInBounds_toArray, List.set_cons_zero, List.set_cons_succ])) | (apply ord_skip rfl (by rfl) (by rfl) (fun _ => hBe); (try simp only [Act.put, List.setIfInBounds_toArray, List.set_cons_zero, List.set_cons_succ])))
 refine ord_do rfl (by rfl) (by rfl) (fun K hK => ?_)
 go_simp
 refine (size_any _ _ _ _ _ _).mono ?_
 rintro e wd' ⟨rfl, hwd⟩
 replace hBe := hBe.trans (hwd.mono hBe.size)
 clear hwd
 refine hK.out _ _ (fun _ => hBe) ?_
 (try simp only [Act.put, List.setIfInBounds_toArray, List.set_cons_zero, List.set_cons_succ])
 clear hK K
 repeat (first | (apply ord_tk rfl (by rfl) (by rfl) (by rfl); (focus (intro wx hSw; have r0 := (hSw.cell (p := ⟨w.heap.size, 0, none⟩) hszW).trans q0; have r1 := (hSw.cell (p := ⟨w.heap.size, 1, none⟩) hszW).trans q1; have r2 := (hSw.cell (p := ⟨w.heap.size, 2, none⟩) hszW).trans q2; have r3 := (hSw.cell (p := ⟨w.heap.size + 1, 0, none⟩) hszW1).trans p0; have r4 := (hSw.cell (p := ⟨w.heap.size + 1, 1, none⟩) hszW1).trans p1; have r5 := (hSw.cell (p := ⟨w.heap.size + 1, 2, none⟩) hszW1).trans p2; go_simp; (try with_reducible rfl))); (try simp only [Act.put, List.setIfInBounds_toArray, List.set_cons_zero, List.set_cons_succ])) | (apply ord_skip rfl (by rfl) (by rfl) (fun _ => hBe); (try simp only [Act.put, List.setIfInBounds_toArray, List.set_cons_zero, List.set_cons_succ])))
 refine ord_nil ?_
 go_wp2_with fail
 refine wp_region_bt (.one 0 (.one 1 (.one 2 (.one 3 (.one 6 (.one 7 (.one 8 (.one 9 (.one 10 (.one 11 (.one 14 (.one 15 (.two 4 (.two 5 (.two 12 (.one 13 (.one 16 (.one 17 (.one 18 (.one 19 .nil))))) 18 (.one 12 (.one 13 (.one 16 (.one 17 (.one 19 .nil)))))) 18 (.one 5 (.one 12 (.one 13 (.one 16 (.one 17 (.one 19 .nil))))))) 18 (.one 4 (.one 5 (.one 12 (.one 13 (.one 16 (.one 17 (.one 19 .nil)))))))))))))))))))) 19 W.heap.size W (by kernel_rfl) (by kernel_rfl) (by kernel_rfl) (fun _ _ _ _ _ h => h) hBe (fun wd hBe => ?_)
 repeat (first | (apply ot_tk rfl (by rfl) (by rfl) (by rfl); (focus (intro wx hSw; have r0 := (hSw.cell (p := ⟨w.heap.size, 0, none⟩) hszW).trans q0; have r1 := (hSw.cell (p := ⟨w.heap.size, 1, none⟩) hszW).trans q1; have r2 := (hSw.cell (p := ⟨w.heap.size, 2, none⟩) hszW).trans q2; have r3 := (hSw.cell (p := ⟨w.heap.size + 1, 0, none⟩) hszW1).trans p0; have r4 := (hSw.cell (p := ⟨w.heap.size + 1, 1, none⟩) hszW1).trans p1; have r5 := (hSw.cell (p := ⟨w.heap.size + 1, 2, none⟩) hszW1).trans p2; go_simp; (try with_reducible rfl))); (try simp only [Act.put, List.setIfInBounds_toArray, List.set_cons_zero, List.set_cons_succ])) | (apply ot_skip rfl (by rfl) (by rfl) (fun _ => hBe); (try simp only [Act.put, List.setIfInBounds_toArray, List.set_cons_zero, List.set_cons_succ])))
 refine ot_two ?_ ?_
 ·skip
  (refine ot_do rfl (by rfl) (by rfl) (fun K hK => ?_); go_simp; obtain ⟨ws, S, hg, hwa, hBa, hsub, bS, hSB⟩ := be_alloc hBe 24 #[.slice A1 os1.length c1, .slice (some ⟨ab, ao, none⟩) os2.length c2]; rw [hwa, hg]; clear hwa hg; (try replace bO := bO.all hsub); clear hBe hsub; have hBe := hBa; clear hBa; refine hK.out _ _ (fun _ => hBe) ?_; (try simp only [Act.put, List.setIfInBounds_toArray, List.set_cons_zero, List.set_cons_succ]); clear hK K)
  repeat (first | (apply ot_tk rfl (by rfl) (by rfl) (by rfl); (focus (intro wx hSw; have r0 := (hSw.cell (p := ⟨w.heap.size, 0, none⟩) hszW).trans q0; have r1 := (hSw.cell (p := ⟨w.heap.size, 1, none⟩) hszW).trans q1; have r2 := (hSw.cell (p := ⟨w.heap.size, 2, none⟩) hszW).trans q2; have r3 := (hSw.cell (p := ⟨w.heap.size + 1, 0, none⟩) hszW1).trans p0; have r4 := (hSw.cell (p := ⟨w.heap.size + 1, 1, none⟩) hszW1).trans p1; have r5 := (hSw.cell (p := ⟨w.heap.size + 1, 2, none⟩) hszW1).trans p2; go_simp; (try with_reducible rfl))); (try simp only [Act.put, List.setIfInBounds_toArray, List.set_cons_zero, List.set_cons_succ])) | (apply ot_skip rfl (by rfl) (by rfl) (fun _ => hBe); (try simp only [Act.put, List.setIfInBounds_toArray, List.set_cons_zero, List.set_cons_succ])))
  refine ot_two ?_ ?_
  ·skip
   (refine ot_do rfl (by rfl) (by rfl) (fun K hK => ?_); go_simp; refine (concat_any _ S 2 (fun k => if k = 0 then A1 else some ⟨ab, ao, none⟩) (fun k => if k = 0 then os1.length else os2.length) (fun k => if k = 0 then c1 else c2) (fun k => if k = 0 then os1 else os2) (fun k hk => by obtain rfl | rfl : k = 0 ∨ k = 1 := (by omega); exact bS.cell 0; exact bS.cell 1) bS.lt (fun k hk => by obtain rfl | rfl : k = 0 ∨ k = 1 := (by omega); exact (hs1.below (hBe.mono (Nat.le_of_lt hszW))).more (by have := hBe.size; omega); exact (hs2.below (hBe.mono (Nat.le_of_lt hszW))).more (by have := hBe.size; omega)) (fun k hk => by obtain rfl | rfl : k = 0 ∨ k = 1 := (by omega); exact hp1; exact hp2) (by omega) (by rw [hCat.out, List.length_append]; omega) (by rw [hCat.out, List.length_append]; omega)).mono ?_; rw [hCat.out]; rintro e wn ⟨v, rfl, hO, hb2⟩; obtain ⟨Av, cv, hvv⟩ := hO.val; rw [hNN.out] at hvv; subst hvv; (try replace bO := bO.all hb2); replace hO := hO.less (show W.heap.size ≤ _ from hBe.size); replace hBe := hBe.trans (hb2.mono hBe.size); clear hb2 bS; refine hK.out _ _ (fun _ => hBe) ?_; (try simp only [Act.put, List.setIfInBounds_toArray, List.set_cons_zero, List.set_cons_succ]); clear hK K)
   repeat (first | (apply ot_tk rfl (by rfl) (by rfl) (by rfl); (focus (intro wx hSw; have r0 := (hSw.cell (p := ⟨w.heap.size, 0, none⟩) hszW).trans q0; have r1 := (hSw.cell (p := ⟨w.heap.size, 1, none⟩) hszW).trans q1; have r2 := (hSw.cell (p := ⟨w.heap.size, 2, none⟩) hszW).trans q2; have r3 := (hSw.cell (p := ⟨w.heap.size + 1, 0, none⟩) hszW1).trans p0; have r4 := (hSw.cell (p := ⟨w.heap.size + 1, 1, none⟩) hszW1).trans p1; have r5 := (hSw.cell (p := ⟨w.heap.size + 1, 2, none⟩) hszW1).trans p2; go_simp; (try with_reducible rfl))); (try simp only [Act.put, List.setIfInBounds_toArray, List.set_cons_zero, List.set_cons_succ])) | (apply ot_skip rfl (by rfl) (by rfl) (fun _ => hBe); (try simp only [Act.put, List.setIfInBounds_toArray, List.set_cons_zero, List.set_cons_succ])))
   refine ot_two ?_ ?_
   ·skip
    (refine ot_do rfl (by rfl) (by rfl) (fun K hK => ?_); go_simp; refine ((hCom _).mono fun _ _ h => Qt.re h).mono ?_; rintro e wq ⟨rfl, hb2⟩; (try replace bO := bO.all hb2); (try replace hO := hO.below hb2); replace hBe := hBe.trans (hb2.mono hBe.size); clear hb2; refine hK.out _ _ (fun _ => hBe) ?_; (try simp only [Act.put, List.setIfInBounds_toArray, List.set_cons_zero, List.set_cons_succ]); clear hK K)
    repeat (first | (apply ot_tk rfl (by rfl) (by rfl) (by rfl); (focus (intro wx hSw; have r0 := (hSw.cell (p := ⟨w.heap.size, 0, none⟩) hszW).trans q0; have r1 := (hSw.cell (p := ⟨w.heap.size, 1, none⟩) hszW).trans q1; have r2 := (hSw.cell (p := ⟨w.heap.size, 2, none⟩) hszW).trans q2; have r3 := (hSw.cell (p := ⟨w.heap.size + 1, 0, none⟩) hszW1).trans p0; have r4 := (hSw.cell (p := ⟨w.heap.size + 1, 1, none⟩) hszW1).trans p1; have r5 := (hSw.cell (p := ⟨w.heap.size + 1, 2, none⟩) hszW1).trans p2; go_simp; (try with_reducible rfl))); (try simp only [Act.put, List.setIfInBounds_toArray, List.set_cons_zero, List.set_cons_succ])) | (apply ot_skip rfl (by rfl) (by rfl) (fun _ => hBe); (try simp only [Act.put, List.setIfInBounds_toArray, List.set_cons_zero, List.set_cons_succ])))
    (refine ot_do rfl (by rfl) (by rfl) (fun K hK => ?_); go_simp; obtain ⟨wa, g, hg, hwa, hBa, hsub, bO, hgB⟩ := be_alloc hBe 26 #[.slice none 0 0, .int .i64 0, .slice none 0 0]; rw [hwa, hg]; clear hwa hg; (try replace hO := hO.below hsub); (try replace bS := bS.all hsub); clear hBe hsub; have hBe := hBa; clear hBa; refine hK.out _ _ (fun _ => hBe) ?_; (try simp only [Act.put, List.setIfInBounds_toArray, List.set_cons_zero, List.set_cons_succ]); clear hK K)
    repeat (first | (apply ot_tk rfl (by rfl) (by rfl) (by rfl); (focus (intro wx hSw; have r0 := (hSw.cell (p := ⟨w.heap.size, 0, none⟩) hszW).trans q0; have r1 := (hSw.cell (p := ⟨w.heap.size, 1, none⟩) hszW).trans q1; have r2 := (hSw.cell (p := ⟨w.heap.size, 2, none⟩) hszW).trans q2; have r3 := (hSw.cell (p := ⟨w.heap.size + 1, 0, none⟩) hszW1).trans p0; have r4 := (hSw.cell (p := ⟨w.heap.size + 1, 1, none⟩) hszW1).trans p1; have r5 := (hSw.cell (p := ⟨w.heap.size + 1, 2, none⟩) hszW1).trans p2; go_simp; (try with_reducible rfl))); (try simp only [Act.put, List.setIfInBounds_toArray, List.set_cons_zero, List.set_cons_succ])) | (apply ot_skip rfl (by rfl) (by rfl) (fun _ => hBe); (try simp only [Act.put, List.setIfInBounds_toArray, List.set_cons_zero, List.set_cons_succ])))
    have r0 := bO.cell 0
    have r1 := bO.cell 1
    have r2 := bO.cell 2
    have f0 := bO.frozen 0
    have f1 := bO.frozen 1
    have f2 := bO.frozen 2
    have hI : MetIn W W.heap.size (w.heap.size + 1 + 1) g (.slice Av N cv) (os1 ++ os2) D (.slice none 0 0) [] (put3 wa g (.slice Av N cv) (.int .i64 D) (.slice none 0 0)) := ⟨put3_far (bR.all hBe) (by omega), put3_own bO (by decide) hO, put3_blk bO, Ow.nil _ _, fun b hb => by simp [Value.ownBlock], put3_below hBe hgB⟩
    refine ot_do rfl (by rfl) (by rfl) (fun K hK => ?_)
    go_simp
    refine hK.out _ _ (fun h => absurd h (by omega)) ?_
    (try simp only [Act.put, List.setIfInBounds_toArray, List.set_cons_zero, List.set_cons_succ])
    clear hK K
    refine ot_nil ?_
    clear r0 r1 r2 f0 f1 f2 bO hO
    have hRs := hide (show w.heap.size + 1 + 1 < g by omega)
    have hS0 := hide (show sumL D e1 e2 (vs1.take 0) vs2 = [] from rfl)
    have hR0 := hide (fun v => show sumR D e1 e2 v (vs2.take 0) = [] from rfl)
    obtain ⟨vo, hvo⟩ : ∃ vo, Value.slice Av N cv = vo := ⟨_, rfl⟩
    have hVO := hide hvo
    obtain ⟨W3, hW3⟩ : ∃ W3, put3 wa g (.slice Av N cv) (.int .i64 D) (.slice none 0 0) = W3 := ⟨_, rfl⟩
    unfold put3 at hW3
    unfold put3 at hI
    rw [hW3, hvo] at hI
    clear hvo
    rw [hW3]
    clear hW3
    have c2 := (hI.below.cell (p := ⟨w.heap.size, 2, none⟩) hszW).trans q2
    go_wp2_with fail
    clear c2
    go_loopw [58] (fun x wr => ∃ (k : Nat) (vv : Value), k ≤ vs1.length ∧ x = .int .i64 k ∧ MetIn W W.heap.size (w.heap.size + 1 + 1) g vo (os1 ++ os2) D vv (sumL D e1 e2 (vs1.take k) vs2) wr) (fun x _ => vs1.length - (intOf x).toNat)
    case atStart => exact ⟨0, _, by omega, rfl, by rw [hS0.out]; exact hI⟩
    case round =>
     clear hI hBe
     obtain ⟨k, vv, hk, rfl, hI⟩ := hrel
     by_cases hlt : k < vs1.length
     ·obtain ⟨b, off, rfl, hb, hc⟩ := hg1.at_ (by omega)
      have cv := hc k hlt
      clear hc
      have hv := hok1.rng _ (gi_mem hlt)
      have hsn := hide (sumL_snoc D e1 e2 vs2 hlt)
      obtain ⟨v, ev⟩ : ∃ v, gi vs1 k = v := ⟨_, rfl⟩
      rw [ev] at cv hv hsn
      clear ev
      have cv2 := (hI.below.cell (p := ⟨b, off + k, none⟩) (by show b < W.heap.size; omega)).trans cv
      have c2 := (hI.below.cell (p := ⟨w.heap.size + 1, 2, none⟩) hszW1).trans p2
      go_wp2_with fail
      clear c2 cv2 cv
      go_loopw [65] (fun y wr => ∃ (j : Nat) (vv : Value), j ≤ vs2.length ∧ y = .int .i64 j ∧ MetIn W W.heap.size (w.heap.size + 1 + 1) g vo (os1 ++ os2) D vv (sumL D e1 e2 (vs1.take k) vs2 ++ sumR D e1 e2 v (vs2.take j)) wr) (fun y _ => vs2.length - (intOf y).toNat)
      case atStart => exact ⟨0, vv, by omega, rfl, by rw [hR0.out, List.append_nil]; exact hI⟩
      case round =>
       clear hI
       obtain ⟨j, vv, hj, rfl, hI⟩ := hrel
       obtain ⟨xs, hxs⟩ : ∃ xs, sumL D e1 e2 (vs1.take k) vs2 ++ sumR D e1 e2 v (vs2.take j) = xs := ⟨_, rfl⟩
       have hlen : xs.length ≤ 1000 := by
        rw [← hxs, List.length_append, sumL_len, sumR_len]
        have : (vs1.take k).length * vs2.length ≤ 16 * 16 := Nat.mul_le_mul (by rw [List.length_take]; omega) hv2
        have : (vs2.take j).length ≤ 16 := by rw [List.length_take]; omega
        omega
       rw [hxs] at hI
       have hX := hide hxs
       clear hxs
       have hsz := hI.out.lt
       by_cases hlj : j < vs2.length
       ·obtain ⟨b', off', rfl, hb', hc'⟩ := hg2.at_ (by omega)
        have cu := (hI.below.cell (p := ⟨b', off' + j, none⟩) (by show b' < W.heap.size; omega)).trans (hc' j hlj)
        clear hc'
        have hu := hok2.rng _ (gi_mem hlj)
        have hsm := hide (sumR_snoc D e1 e2 v hlj)
        obtain ⟨u, eu⟩ : ∃ u, gi vs2 j = u := ⟨_, rfl⟩
        rw [eu] at cu hu hsm
        clear eu
        have b1 : 0 ≤ v * (e1 : Int) := Int.mul_nonneg hv.1 (by omega)
        have b2 : v * (e1 : Int) ≤ 55440 * 55440 := Int.mul_le_mul (by omega) (by omega) (by omega) (by omega)
        have b3 : 0 ≤ u * (e2 : Int) := Int.mul_nonneg hu.1 (by omega)
        have b4 : u * (e2 : Int) ≤ 55440 * 55440 := Int.mul_le_mul (by omega) (by omega) (by omega) (by omega)
        obtain ⟨P1, hP1⟩ : ∃ P1, v * (e1 : Int) = P1 := ⟨_, rfl⟩
        obtain ⟨P2, hP2⟩ : ∃ P2, u * (e2 : Int) = P2 := ⟨_, rfl⟩
        rw [hP1] at b1 b2 hsm
        rw [hP2] at b3 b4 hsm
        have u1 : IntKind.i64.wrap (v * (e1 : Int)) = P1 := by rw [hP1]; exact wrap_in (by omega) (by omega)
        have u2 : IntKind.i64.wrap (u * (e2 : Int)) = P2 := by rw [hP2]; exact wrap_in (by omega) (by omega)
        clear hP1 hP2
        obtain ⟨P3, hP3⟩ : ∃ P3, P1 + P2 = P3 := ⟨_, rfl⟩
        have u3 : IntKind.i64.wrap (P1 + P2) = P3 := by rw [hP3]; exact wrap_in (by omega) (by omega)
        rw [hP3] at hsm
        obtain ⟨Y, hY⟩ : ∃ Y, P3 % (D : Int) = Y := ⟨_, rfl⟩
        rw [hY] at hsm
        have HY := hide hY
        clear hY hP3
        have HR := hide (show ∀ wx, Below W.heap.size W wx → wx.cell? ⟨w.heap.size, 1, none⟩ = some (.int .i64 D1) ∧ wx.cell? ⟨w.heap.size + 1, 1, none⟩ = some (.int .i64 D2) from fun wx hwx => ⟨(hwx.cell (p := ⟨w.heap.size, 1, none⟩) hszW).trans q1, (hwx.cell (p := ⟨w.heap.size + 1, 1, none⟩) hszW1).trans p1⟩)
        go_wp2_with fail
        clear cu
        refine wp_region_ord [0, 1, 2, 3, 4, 5, 6, 7, 8, 9, 10, 11, 12, 13, 14, 15, 16, 17, 18, 19, 20, 21, 22] 21 (fun w' => (w'.cell? ⟨g, 0, none⟩ = some vo ∧ w'.cell? ⟨g, 1, none⟩ = some (.int .i64 D) ∧ w'.cell? ⟨g, 2, none⟩ = some vv) ∧ w'.cell? ⟨w.heap.size, 1, none⟩ = some (.int .i64 D1) ∧ w'.cell? ⟨w.heap.size + 1, 1, none⟩ = some (.int .i64 D2)) (by kernel_rfl) (by kernel_rfl) (by kernel_rfl) (fun _ _ _ _ _ h => h) ⟨hI.reads, HR.out _ hI.below.drew⟩ ?_
        repeat (apply ord_take rfl (by rfl) (by rfl); (focus (intro w hSw; (try dsimp only at hSw); go_simp; (try with_reducible rfl))); (try simp only [Act.put, List.setIfInBounds_toArray, List.set_cons_zero, List.set_cons_succ]))
        have hwz := hI.below.size
        refine ord_do rfl (by rfl) (by rfl) (fun K hK => ?_)
        go_simp
        refine (rest_any _ _ _ _ _ (by omega) (by omega)).mono ?_
        rw [HY.out]
        rintro e w1 ⟨rfl, hr1⟩
        have hsz1 := hr1.size
        simp only [heap_drew] at hr1 hsz1
        have hK1 := hI.drew.all hr1 (by simp; omega)
        refine hK.out _ _ (fun _ => ⟨hK1.reads, HR.out _ hK1.below⟩) ?_
        (try simp only [Act.put, List.setIfInBounds_toArray, List.set_cons_zero, List.set_cons_succ])
        clear hK K
        refine ord_do rfl (by rfl) (by rfl) (fun K hK => ?_)
        go_simp
        have hJ := hK1.alloc (by omega) (.cells #[.int .i64 Y] 2)
        refine hK.out _ _ (fun _ => ⟨hJ.reads, HR.out _ hJ.below⟩) ?_
        (try simp only [Act.put, List.setIfInBounds_toArray, List.set_cons_zero, List.set_cons_succ])
        clear hK K
        refine ord_do rfl (by rfl) (by rfl) (fun K hK => ?_)
        refine wp_push _ _ _ (by rfl) W.heap.size vv xs (by rfl) hJ.vals _ w1.heap.size _ (by rfl) (Blk.new _ _ _) (by omega) (by simp; omega) (by simp) ?_
        intro g2 cap2 w2 hP
        have o2 := hJ.pushed hP
        have hK2 := hJ.below.trans (hP.below hJ.vals (by simp; omega))
        refine hK.out _ _ (fun _ => ⟨⟨o2.cell 0, o2.cell 1, o2.cell 2⟩, HR.out _ hK2⟩) ?_
        (try simp only [Act.put, List.setIfInBounds_toArray, List.set_cons_zero, List.set_cons_succ])
        clear hK K
        refine ord_do rfl (by rfl) (by rfl) (fun K hK => ?_)
        go_simp
        refine hK.out _ _ (fun h => absurd h (by omega)) ?_
        (try simp only [Act.put, List.setIfInBounds_toArray, List.set_cons_zero, List.set_cons_succ])
        clear hK K
        have c2' := o2.cell 2
        have f2' := o2.frozen 2
        refine ord_do rfl (by rfl) (by rfl) (fun K hK => ?_)
        go_simp
        refine hK.out _ _ (fun h => absurd h (by omega)) ?_
        (try simp only [Act.put, List.setIfInBounds_toArray, List.set_cons_zero, List.set_cons_succ])
        clear hK K
        refine ord_nil ?_
        clear u1 u2 u3
        go_wp2
        go_roundw
        case rel => exact ⟨j + 1, _, by omega, by go_num, by rw [hsm.out, ← List.append_assoc, hX.out]; exact hJ.step hP (by simp; omega) (by have := hRs.out; omega) (by omega) (hK1.ordsNe (by omega))⟩
        case measure => simp [intOf]; omega
       ·obtain rfl : j = vs2.length := by omega
        have hE := hide (show sumL D e1 e2 (vs1.take (k + 1)) vs2 = xs by rw [hsn.out, ← hX.out, List.take_length])
        go_wp2_with fail
        go_roundw
        case rel => exact ⟨k + 1, vv, by omega, by go_num, by rw [hE.out]; exact hI⟩
        case measure => simp [intOf]; omega
     ·obtain ⟨xs, hxs⟩ : ∃ xs, sumL D e1 e2 (vs1.take k) vs2 = xs := ⟨_, rfl⟩
      rw [hxs] at hI
      have hTk := hide (show sumL D e1 e2 vs1 vs2 = xs by rw [← hxs, show k = vs1.length by omega, List.take_length])
      clear hxs
      obtain ⟨A5, c5, rfl⟩ := hI.vals.val
      obtain ⟨o0, o1, o2⟩ := hI.reads
      have hres := hI.res
      rw [← hVO.out] at hI o0
      have r0 := hres.cell 0
      have r1 := hres.cell 1
      have r2 := hres.cell 2
      have f0 := hres.frozen 0
      have f1 := hres.frozen 1
      have f2 := hres.frozen 2
      go_wp2
      have hb3 := put3_blk (x := .slice Av N cv) (y := .int .i64 D) (z := .slice A5 xs.length c5) hres
      have q0 := hb3.cell 0
      have q1 := hb3.cell 1
      have q2 := hb3.cell 2
      unfold put3 at q0 q1 q2
      refine bodyPost_ret (v := .tuple #[.agg #[.slice Av N cv, .int .i64 D, .slice A5 xs.length c5], .int .i64 0]) (by simp [results, Tryz.results79, go_sem, q0, q1, q2]) rfl ?_
      rw [hTk.out]
      exact (hI.weak hbW (Nat.le_of_lt hszW)).done (by omega)
   ·skip
    (refine ot_do rfl (by rfl) (by rfl) (fun K hK => ?_); go_simp; obtain ⟨wa, g, hg, hwa, hBa, hsub, bO, hgB⟩ := be_alloc hBe 26 #[.slice none 0 0, .int .i64 0, .slice none 0 0]; rw [hwa, hg]; clear hwa hg; (try replace hO := hO.below hsub); (try replace bS := bS.all hsub); clear hBe hsub; have hBe := hBa; clear hBa; refine hK.out _ _ (fun _ => hBe) ?_; (try simp only [Act.put, List.setIfInBounds_toArray, List.set_cons_zero, List.set_cons_succ]); clear hK K)
    repeat (first | (apply ot_tk rfl (by rfl) (by rfl) (by rfl); (focus (intro wx hSw; have r0 := (hSw.cell (p := ⟨w.heap.size, 0, none⟩) hszW).trans q0; have r1 := (hSw.cell (p := ⟨w.heap.size, 1, none⟩) hszW).trans q1; have r2 := (hSw.cell (p := ⟨w.heap.size, 2, none⟩) hszW).trans q2; have r3 := (hSw.cell (p := ⟨w.heap.size + 1, 0, none⟩) hszW1).trans p0; have r4 := (hSw.cell (p := ⟨w.heap.size + 1, 1, none⟩) hszW1).trans p1; have r5 := (hSw.cell (p := ⟨w.heap.size + 1, 2, none⟩) hszW1).trans p2; go_simp; (try with_reducible rfl))); (try simp only [Act.put, List.setIfInBounds_toArray, List.set_cons_zero, List.set_cons_succ])) | (apply ot_skip rfl (by rfl) (by rfl) (fun _ => hBe); (try simp only [Act.put, List.setIfInBounds_toArray, List.set_cons_zero, List.set_cons_succ])))
    (refine ot_do rfl (by rfl) (by rfl) (fun K hK => ?_); go_simp; refine ((hCom _).mono fun _ _ h => Qt.re h).mono ?_; rintro e wq ⟨rfl, hb2⟩; (try replace bO := bO.all hb2); (try replace hO := hO.below hb2); replace hBe := hBe.trans (hb2.mono hBe.size); clear hb2; refine hK.out _ _ (fun _ => hBe) ?_; (try simp only [Act.put, List.setIfInBounds_toArray, List.set_cons_zero, List.set_cons_succ]); clear hK K)
    repeat (first | (apply ot_tk rfl (by rfl) (by rfl) (by rfl); (focus (intro wx hSw; have r0 := (hSw.cell (p := ⟨w.heap.size, 0, none⟩) hszW).trans q0; have r1 := (hSw.cell (p := ⟨w.heap.size, 1, none⟩) hszW).trans q1; have r2 := (hSw.cell (p := ⟨w.heap.size, 2, none⟩) hszW).trans q2; have r3 := (hSw.cell (p := ⟨w.heap.size + 1, 0, none⟩) hszW1).trans p0; have r4 := (hSw.cell (p := ⟨w.heap.size + 1, 1, none⟩) hszW1).trans p1; have r5 := (hSw.cell (p := ⟨w.heap.size + 1, 2, none⟩) hszW1).trans p2; go_simp; (try with_reducible rfl))); (try simp only [Act.put, List.setIfInBounds_toArray, List.set_cons_zero, List.set_cons_succ])) | (apply ot_skip rfl (by rfl) (by rfl) (fun _ => hBe); (try simp only [Act.put, List.setIfInBounds_toArray, List.set_cons_zero, List.set_cons_succ])))
    have r0 := bO.cell 0
    have r1 := bO.cell 1
    have r2 := bO.cell 2
    have f0 := bO.frozen 0
    have f1 := bO.frozen 1
    have f2 := bO.frozen 2
    have hI : MetIn W W.heap.size (w.heap.size + 1 + 1) g (.slice Av N cv) (os1 ++ os2) D (.slice none 0 0) [] (put3 wq g (.slice Av N cv) (.int .i64 D) (.slice none 0 0)) := ⟨put3_far (bR.all hBe) (by omega), put3_own bO (by decide) hO, put3_blk bO, Ow.nil _ _, fun b hb => by simp [Value.ownBlock], put3_below hBe hgB⟩
    refine ot_do rfl (by rfl) (by rfl) (fun K hK => ?_)
    go_simp
    refine hK.out _ _ (fun h => absurd h (by omega)) ?_
    (try simp only [Act.put, List.setIfInBounds_toArray, List.set_cons_zero, List.set_cons_succ])
    clear hK K
    refine ot_nil ?_
    clear r0 r1 r2 f0 f1 f2 bO hO
    have hRs := hide (show w.heap.size + 1 + 1 < g by omega)
    have hS0 := hide (show sumL D e1 e2 (vs1.take 0) vs2 = [] from rfl)
    have hR0 := hide (fun v => show sumR D e1 e2 v (vs2.take 0) = [] from rfl)
    obtain ⟨vo, hvo⟩ : ∃ vo, Value.slice Av N cv = vo := ⟨_, rfl⟩
    have hVO := hide hvo
    obtain ⟨W3, hW3⟩ : ∃ W3, put3 wq g (.slice Av N cv) (.int .i64 D) (.slice none 0 0) = W3 := ⟨_, rfl⟩
    unfold put3 at hW3
    unfold put3 at hI
    rw [hW3, hvo] at hI
    clear hvo
    rw [hW3]
    clear hW3
    have c2 := (hI.below.cell (p := ⟨w.heap.size, 2, none⟩) hszW).trans q2
    go_wp2_with fail
    clear c2
    go_loopw [58] (fun x wr => ∃ (k : Nat) (vv : Value), k ≤ vs1.length ∧ x = .int .i64 k ∧ MetIn W W.heap.size (w.heap.size + 1 + 1) g vo (os1 ++ os2) D vv (sumL D e1 e2 (vs1.take k) vs2) wr) (fun x _ => vs1.length - (intOf x).toNat)
    case atStart => exact ⟨0, _, by omega, rfl, by rw [hS0.out]; exact hI⟩
    case round =>
     clear hI hBe
     obtain ⟨k, vv, hk, rfl, hI⟩ := hrel
     by_cases hlt : k < vs1.length
     ·obtain ⟨b, off, rfl, hb, hc⟩ := hg1.at_ (by omega)
      have cv := hc k hlt
      clear hc
      have hv := hok1.rng _ (gi_mem hlt)
      have hsn := hide (sumL_snoc D e1 e2 vs2 hlt)
      obtain ⟨v, ev⟩ : ∃ v, gi vs1 k = v := ⟨_, rfl⟩
      rw [ev] at cv hv hsn
      clear ev
      have cv2 := (hI.below.cell (p := ⟨b, off + k, none⟩) (by show b < W.heap.size; omega)).trans cv
      have c2 := (hI.below.cell (p := ⟨w.heap.size + 1, 2, none⟩) hszW1).trans p2
      go_wp2_with fail
      clear c2 cv2 cv
      go_loopw [65] (fun y wr => ∃ (j : Nat) (vv : Value), j ≤ vs2.length ∧ y = .int .i64 j ∧ MetIn W W.heap.size (w.heap.size + 1 + 1) g vo (os1 ++ os2) D vv (sumL D e1 e2 (vs1.take k) vs2 ++ sumR D e1 e2 v (vs2.take j)) wr) (fun y _ => vs2.length - (intOf y).toNat)
      case atStart => exact ⟨0, vv, by omega, rfl, by rw [hR0.out, List.append_nil]; exact hI⟩
      case round =>
       clear hI
       obtain ⟨j, vv, hj, rfl, hI⟩ := hrel
       obtain ⟨xs, hxs⟩ : ∃ xs, sumL D e1 e2 (vs1.take k) vs2 ++ sumR D e1 e2 v (vs2.take j) = xs := ⟨_, rfl⟩
       have hlen : xs.length ≤ 1000 := by
        rw [← hxs, List.length_append, sumL_len, sumR_len]
        have : (vs1.take k).length * vs2.length ≤ 16 * 16 := Nat.mul_le_mul (by rw [List.length_take]; omega) hv2
        have : (vs2.take j).length ≤ 16 := by rw [List.length_take]; omega
        omega
       rw [hxs] at hI
       have hX := hide hxs
       clear hxs
       have hsz := hI.out.lt
       by_cases hlj : j < vs2.length
       ·obtain ⟨b', off', rfl, hb', hc'⟩ := hg2.at_ (by omega)
        have cu := (hI.below.cell (p := ⟨b', off' + j, none⟩) (by show b' < W.heap.size; omega)).trans (hc' j hlj)
        clear hc'
        have hu := hok2.rng _ (gi_mem hlj)
        have hsm := hide (sumR_snoc D e1 e2 v hlj)
        obtain ⟨u, eu⟩ : ∃ u, gi vs2 j = u := ⟨_, rfl⟩
        rw [eu] at cu hu hsm
        clear eu
        have b1 : 0 ≤ v * (e1 : Int) := Int.mul_nonneg hv.1 (by omega)
        have b2 : v * (e1 : Int) ≤ 55440 * 55440 := Int.mul_le_mul (by omega) (by omega) (by omega) (by omega)
        have b3 : 0 ≤ u * (e2 : Int) := Int.mul_nonneg hu.1 (by omega)
        have b4 : u * (e2 : Int) ≤ 55440 * 55440 := Int.mul_le_mul (by omega) (by omega) (by omega) (by omega)
        obtain ⟨P1, hP1⟩ : ∃ P1, v * (e1 : Int) = P1 := ⟨_, rfl⟩
        obtain ⟨P2, hP2⟩ : ∃ P2, u * (e2 : Int) = P2 := ⟨_, rfl⟩
        rw [hP1] at b1 b2 hsm
        rw [hP2] at b3 b4 hsm
        have u1 : IntKind.i64.wrap (v * (e1 : Int)) = P1 := by rw [hP1]; exact wrap_in (by omega) (by omega)
        have u2 : IntKind.i64.wrap (u * (e2 : Int)) = P2 := by rw [hP2]; exact wrap_in (by omega) (by omega)
        clear hP1 hP2
        obtain ⟨P3, hP3⟩ : ∃ P3, P1 + P2 = P3 := ⟨_, rfl⟩
        have u3 : IntKind.i64.wrap (P1 + P2) = P3 := by rw [hP3]; exact wrap_in (by omega) (by omega)
        rw [hP3] at hsm
        obtain ⟨Y, hY⟩ : ∃ Y, P3 % (D : Int) = Y := ⟨_, rfl⟩
        rw [hY] at hsm
        have HY := hide hY
        clear hY hP3
        have HR := hide (show ∀ wx, Below W.heap.size W wx → wx.cell? ⟨w.heap.size, 1, none⟩ = some (.int .i64 D1) ∧ wx.cell? ⟨w.heap.size + 1, 1, none⟩ = some (.int .i64 D2) from fun wx hwx => ⟨(hwx.cell (p := ⟨w.heap.size, 1, none⟩) hszW).trans q1, (hwx.cell (p := ⟨w.heap.size + 1, 1, none⟩) hszW1).trans p1⟩)
        go_wp2_with fail
        clear cu
        refine wp_region_ord [0, 1, 2, 3, 4, 5, 6, 7, 8, 9, 10, 11, 12, 13, 14, 15, 16, 17, 18, 19, 20, 21, 22] 21 (fun w' => (w'.cell? ⟨g, 0, none⟩ = some vo ∧ w'.cell? ⟨g, 1, none⟩ = some (.int .i64 D) ∧ w'.cell? ⟨g, 2, none⟩ = some vv) ∧ w'.cell? ⟨w.heap.size, 1, none⟩ = some (.int .i64 D1) ∧ w'.cell? ⟨w.heap.size + 1, 1, none⟩ = some (.int .i64 D2)) (by kernel_rfl) (by kernel_rfl) (by kernel_rfl) (fun _ _ _ _ _ h => h) ⟨hI.reads, HR.out _ hI.below.drew⟩ ?_
        repeat (apply ord_take rfl (by rfl) (by rfl); (focus (intro w hSw; (try dsimp only at hSw); go_simp; (try with_reducible rfl))); (try simp only [Act.put, List.setIfInBounds_toArray, List.set_cons_zero, List.set_cons_succ]))
        have hwz := hI.below.size
        refine ord_do rfl (by rfl) (by rfl) (fun K hK => ?_)
        go_simp
        refine (rest_any _ _ _ _ _ (by omega) (by omega)).mono ?_
        rw [HY.out]
        rintro e w1 ⟨rfl, hr1⟩
        have hsz1 := hr1.size
        simp only [heap_drew] at hr1 hsz1
        have hK1 := hI.drew.all hr1 (by simp; omega)
        refine hK.out _ _ (fun _ => ⟨hK1.reads, HR.out _ hK1.below⟩) ?_
        (try simp only [Act.put, List.setIfInBounds_toArray, List.set_cons_zero, List.set_cons_succ])
        clear hK K
        refine ord_do rfl (by rfl) (by rfl) (fun K hK => ?_)
        go_simp
        have hJ := hK1.alloc (by omega) (.cells #[.int .i64 Y] 2)
        refine hK.out _ _ (fun _ => ⟨hJ.reads, HR.out _ hJ.below⟩) ?_
        (try simp only [Act.put, List.setIfInBounds_toArray, List.set_cons_zero, List.set_cons_succ])
        clear hK K
        refine ord_do rfl (by rfl) (by rfl) (fun K hK => ?_)
        refine wp_push _ _ _ (by rfl) W.heap.size vv xs (by rfl) hJ.vals _ w1.heap.size _ (by rfl) (Blk.new _ _ _) (by omega) (by simp; omega) (by simp) ?_
        intro g2 cap2 w2 hP
        have o2 := hJ.pushed hP
        have hK2 := hJ.below.trans (hP.below hJ.vals (by simp; omega))
        refine hK.out _ _ (fun _ => ⟨⟨o2.cell 0, o2.cell 1, o2.cell 2⟩, HR.out _ hK2⟩) ?_
        (try simp only [Act.put, List.setIfInBounds_toArray, List.set_cons_zero, List.set_cons_succ])
        clear hK K
        refine ord_do rfl (by rfl) (by rfl) (fun K hK => ?_)
        go_simp
        refine hK.out _ _ (fun h => absurd h (by omega)) ?_
        (try simp only [Act.put, List.setIfInBounds_toArray, List.set_cons_zero, List.set_cons_succ])
        clear hK K
        have c2' := o2.cell 2
        have f2' := o2.frozen 2
        refine ord_do rfl (by rfl) (by rfl) (fun K hK => ?_)
        go_simp
        refine hK.out _ _ (fun h => absurd h (by omega)) ?_
        (try simp only [Act.put, List.setIfInBounds_toArray, List.set_cons_zero, List.set_cons_succ])
        clear hK K
        refine ord_nil ?_
        clear u1 u2 u3
        go_wp2
        go_roundw
        case rel => exact ⟨j + 1, _, by omega, by go_num, by rw [hsm.out, ← List.append_assoc, hX.out]; exact hJ.step hP (by simp; omega) (by have := hRs.out; omega) (by omega) (hK1.ordsNe (by omega))⟩
        case measure => simp [intOf]; omega
       ·obtain rfl : j = vs2.length := by omega
        have hE := hide (show sumL D e1 e2 (vs1.take (k + 1)) vs2 = xs by rw [hsn.out, ← hX.out, List.take_length])
        go_wp2_with fail
        go_roundw
        case rel => exact ⟨k + 1, vv, by omega, by go_num, by rw [hE.out]; exact hI⟩
        case measure => simp [intOf]; omega
     ·obtain ⟨xs, hxs⟩ : ∃ xs, sumL D e1 e2 (vs1.take k) vs2 = xs := ⟨_, rfl⟩
      rw [hxs] at hI
      have hTk := hide (show sumL D e1 e2 vs1 vs2 = xs by rw [← hxs, show k = vs1.length by omega, List.take_length])
      clear hxs
      obtain ⟨A5, c5, rfl⟩ := hI.vals.val
      obtain ⟨o0, o1, o2⟩ := hI.reads
      have hres := hI.res
      rw [← hVO.out] at hI o0
      have r0 := hres.cell 0
      have r1 := hres.cell 1
      have r2 := hres.cell 2
      have f0 := hres.frozen 0
      have f1 := hres.frozen 1
      have f2 := hres.frozen 2
      go_wp2
      have hb3 := put3_blk (x := .slice Av N cv) (y := .int .i64 D) (z := .slice A5 xs.length c5) hres
      have q0 := hb3.cell 0
      have q1 := hb3.cell 1
      have q2 := hb3.cell 2
      unfold put3 at q0 q1 q2
      refine bodyPost_ret (v := .tuple #[.agg #[.slice Av N cv, .int .i64 D, .slice A5 xs.length c5], .int .i64 0]) (by simp [results, Tryz.results79, go_sem, q0, q1, q2]) rfl ?_
      rw [hTk.out]
      exact (hI.weak hbW (Nat.le_of_lt hszW)).done (by omega)
  ·skip
   (refine ot_do rfl (by rfl) (by rfl) (fun K hK => ?_); go_simp; obtain ⟨wa, g, hg, hwa, hBa, hsub, bO, hgB⟩ := be_alloc hBe 26 #[.slice none 0 0, .int .i64 0, .slice none 0 0]; rw [hwa, hg]; clear hwa hg; (try replace hO := hO.below hsub); (try replace bS := bS.all hsub); clear hBe hsub; have hBe := hBa; clear hBa; refine hK.out _ _ (fun _ => hBe) ?_; (try simp only [Act.put, List.setIfInBounds_toArray, List.set_cons_zero, List.set_cons_succ]); clear hK K)
   repeat (first | (apply ot_tk rfl (by rfl) (by rfl) (by rfl); (focus (intro wx hSw; have r0 := (hSw.cell (p := ⟨w.heap.size, 0, none⟩) hszW).trans q0; have r1 := (hSw.cell (p := ⟨w.heap.size, 1, none⟩) hszW).trans q1; have r2 := (hSw.cell (p := ⟨w.heap.size, 2, none⟩) hszW).trans q2; have r3 := (hSw.cell (p := ⟨w.heap.size + 1, 0, none⟩) hszW1).trans p0; have r4 := (hSw.cell (p := ⟨w.heap.size + 1, 1, none⟩) hszW1).trans p1; have r5 := (hSw.cell (p := ⟨w.heap.size + 1, 2, none⟩) hszW1).trans p2; go_simp; (try with_reducible rfl))); (try simp only [Act.put, List.setIfInBounds_toArray, List.set_cons_zero, List.set_cons_succ])) | (apply ot_skip rfl (by rfl) (by rfl) (fun _ => hBe); (try simp only [Act.put, List.setIfInBounds_toArray, List.set_cons_zero, List.set_cons_succ])))
   (refine ot_do rfl (by rfl) (by rfl) (fun K hK => ?_); go_simp; refine (concat_any _ S 2 (fun k => if k = 0 then A1 else some ⟨ab, ao, none⟩) (fun k => if k = 0 then os1.length else os2.length) (fun k => if k = 0 then c1 else c2) (fun k => if k = 0 then os1 else os2) (fun k hk => by obtain rfl | rfl : k = 0 ∨ k = 1 := (by omega); exact bS.cell 0; exact bS.cell 1) bS.lt (fun k hk => by obtain rfl | rfl : k = 0 ∨ k = 1 := (by omega); exact (hs1.below (hBe.mono (Nat.le_of_lt hszW))).more (by have := hBe.size; omega); exact (hs2.below (hBe.mono (Nat.le_of_lt hszW))).more (by have := hBe.size; omega)) (fun k hk => by obtain rfl | rfl : k = 0 ∨ k = 1 := (by omega); exact hp1; exact hp2) (by omega) (by rw [hCat.out, List.length_append]; omega) (by rw [hCat.out, List.length_append]; omega)).mono ?_; rw [hCat.out]; rintro e wn ⟨v, rfl, hO, hb2⟩; obtain ⟨Av, cv, hvv⟩ := hO.val; rw [hNN.out] at hvv; subst hvv; (try replace bO := bO.all hb2); replace hO := hO.less (show W.heap.size ≤ _ from hBe.size); replace hBe := hBe.trans (hb2.mono hBe.size); clear hb2 bS; refine hK.out _ _ (fun _ => hBe) ?_; (try simp only [Act.put, List.setIfInBounds_toArray, List.set_cons_zero, List.set_cons_succ]); clear hK K)
   repeat (first | (apply ot_tk rfl (by rfl) (by rfl) (by rfl); (focus (intro wx hSw; have r0 := (hSw.cell (p := ⟨w.heap.size, 0, none⟩) hszW).trans q0; have r1 := (hSw.cell (p := ⟨w.heap.size, 1, none⟩) hszW).trans q1; have r2 := (hSw.cell (p := ⟨w.heap.size, 2, none⟩) hszW).trans q2; have r3 := (hSw.cell (p := ⟨w.heap.size + 1, 0, none⟩) hszW1).trans p0; have r4 := (hSw.cell (p := ⟨w.heap.size + 1, 1, none⟩) hszW1).trans p1; have r5 := (hSw.cell (p := ⟨w.heap.size + 1, 2, none⟩) hszW1).trans p2; go_simp; (try with_reducible rfl))); (try simp only [Act.put, List.setIfInBounds_toArray, List.set_cons_zero, List.set_cons_succ])) | (apply ot_skip rfl (by rfl) (by rfl) (fun _ => hBe); (try simp only [Act.put, List.setIfInBounds_toArray, List.set_cons_zero, List.set_cons_succ])))
   (refine ot_do rfl (by rfl) (by rfl) (fun K hK => ?_); go_simp; refine ((hCom _).mono fun _ _ h => Qt.re h).mono ?_; rintro e wq ⟨rfl, hb2⟩; (try replace bO := bO.all hb2); (try replace hO := hO.below hb2); replace hBe := hBe.trans (hb2.mono hBe.size); clear hb2; refine hK.out _ _ (fun _ => hBe) ?_; (try simp only [Act.put, List.setIfInBounds_toArray, List.set_cons_zero, List.set_cons_succ]); clear hK K)
   repeat (first | (apply ot_tk rfl (by rfl) (by rfl) (by rfl); (focus (intro wx hSw; have r0 := (hSw.cell (p := ⟨w.heap.size, 0, none⟩) hszW).trans q0; have r1 := (hSw.cell (p := ⟨w.heap.size, 1, none⟩) hszW).trans q1; have r2 := (hSw.cell (p := ⟨w.heap.size, 2, none⟩) hszW).trans q2; have r3 := (hSw.cell (p := ⟨w.heap.size + 1, 0, none⟩) hszW1).trans p0; have r4 := (hSw.cell (p := ⟨w.heap.size + 1, 1, none⟩) hszW1).trans p1; have r5 := (hSw.cell (p := ⟨w.heap.size + 1, 2, none⟩) hszW1).trans p2; go_simp; (try with_reducible rfl))); (try simp only [Act.put, List.setIfInBounds_toArray, List.set_cons_zero, List.set_cons_succ])) | (apply ot_skip rfl (by rfl) (by rfl) (fun _ => hBe); (try simp only [Act.put, List.setIfInBounds_toArray, List.set_cons_zero, List.set_cons_succ])))
   have r0 := bO.cell 0
   have r1 := bO.cell 1
   have r2 := bO.cell 2
   have f0 := bO.frozen 0
   have f1 := bO.frozen 1
   have f2 := bO.frozen 2
   have hI : MetIn W W.heap.size (w.heap.size + 1 + 1) g (.slice Av N cv) (os1 ++ os2) D (.slice none 0 0) [] (put3 wq g (.slice Av N cv) (.int .i64 D) (.slice none 0 0)) := ⟨put3_far (bR.all hBe) (by omega), put3_own bO (by decide) hO, put3_blk bO, Ow.nil _ _, fun b hb => by simp [Value.ownBlock], put3_below hBe hgB⟩
   refine ot_do rfl (by rfl) (by rfl) (fun K hK => ?_)
   go_simp
   refine hK.out _ _ (fun h => absurd h (by omega)) ?_
   (try simp only [Act.put, List.setIfInBounds_toArray, List.set_cons_zero, List.set_cons_succ])
   clear hK K
   refine ot_nil ?_
   clear r0 r1 r2 f0 f1 f2 bO hO
   have hRs := hide (show w.heap.size + 1 + 1 < g by omega)
   have hS0 := hide (show sumL D e1 e2 (vs1.take 0) vs2 = [] from rfl)
   have hR0 := hide (fun v => show sumR D e1 e2 v (vs2.take 0) = [] from rfl)
   obtain ⟨vo, hvo⟩ : ∃ vo, Value.slice Av N cv = vo := ⟨_, rfl⟩
   have hVO := hide hvo
   obtain ⟨W3, hW3⟩ : ∃ W3, put3 wq g (.slice Av N cv) (.int .i64 D) (.slice none 0 0) = W3 := ⟨_, rfl⟩
   unfold put3 at hW3
   unfold put3 at hI
   rw [hW3, hvo] at hI
   clear hvo
   rw [hW3]
   clear hW3
   have c2 := (hI.below.cell (p := ⟨w.heap.size, 2, none⟩) hszW).trans q2
   go_wp2_with fail
   clear c2
   go_loopw [58] (fun x wr => ∃ (k : Nat) (vv : Value), k ≤ vs1.length ∧ x = .int .i64 k ∧ MetIn W W.heap.size (w.heap.size + 1 + 1) g vo (os1 ++ os2) D vv (sumL D e1 e2 (vs1.take k) vs2) wr) (fun x _ => vs1.length - (intOf x).toNat)
   case atStart => exact ⟨0, _, by omega, rfl, by rw [hS0.out]; exact hI⟩
   case round =>
    clear hI hBe
    obtain ⟨k, vv, hk, rfl, hI⟩ := hrel
    by_cases hlt : k < vs1.length
    ·obtain ⟨b, off, rfl, hb, hc⟩ := hg1.at_ (by omega)
     have cv := hc k hlt
     clear hc
     have hv := hok1.rng _ (gi_mem hlt)
     have hsn := hide (sumL_snoc D e1 e2 vs2 hlt)
     obtain ⟨v, ev⟩ : ∃ v, gi vs1 k = v := ⟨_, rfl⟩
     rw [ev] at cv hv hsn
     clear ev
     have cv2 := (hI.below.cell (p := ⟨b, off + k, none⟩) (by show b < W.heap.size; omega)).trans cv
     have c2 := (hI.below.cell (p := ⟨w.heap.size + 1, 2, none⟩) hszW1).trans p2
     go_wp2_with fail
     clear c2 cv2 cv
     go_loopw [65] (fun y wr => ∃ (j : Nat) (vv : Value), j ≤ vs2.length ∧ y = .int .i64 j ∧ MetIn W W.heap.size (w.heap.size + 1 + 1) g vo (os1 ++ os2) D vv (sumL D e1 e2 (vs1.take k) vs2 ++ sumR D e1 e2 v (vs2.take j)) wr) (fun y _ => vs2.length - (intOf y).toNat)
     case atStart => exact ⟨0, vv, by omega, rfl, by rw [hR0.out, List.append_nil]; exact hI⟩
     case round =>
      clear hI
      obtain ⟨j, vv, hj, rfl, hI⟩ := hrel
      obtain ⟨xs, hxs⟩ : ∃ xs, sumL D e1 e2 (vs1.take k) vs2 ++ sumR D e1 e2 v (vs2.take j) = xs := ⟨_, rfl⟩
      have hlen : xs.length ≤ 1000 := by
       rw [← hxs, List.length_append, sumL_len, sumR_len]
       have : (vs1.take k).length * vs2.length ≤ 16 * 16 := Nat.mul_le_mul (by rw [List.length_take]; omega) hv2
       have : (vs2.take j).length ≤ 16 := by rw [List.length_take]; omega
       omega
      rw [hxs] at hI
      have hX := hide hxs
      clear hxs
      have hsz := hI.out.lt
      by_cases hlj : j < vs2.length
      ·obtain ⟨b', off', rfl, hb', hc'⟩ := hg2.at_ (by omega)
       have cu := (hI.below.cell (p := ⟨b', off' + j, none⟩) (by show b' < W.heap.size; omega)).trans (hc' j hlj)
       clear hc'
       have hu := hok2.rng _ (gi_mem hlj)
       have hsm := hide (sumR_snoc D e1 e2 v hlj)
       obtain ⟨u, eu⟩ : ∃ u, gi vs2 j = u := ⟨_, rfl⟩
       rw [eu] at cu hu hsm
       clear eu
       have b1 : 0 ≤ v * (e1 : Int) := Int.mul_nonneg hv.1 (by omega)
       have b2 : v * (e1 : Int) ≤ 55440 * 55440 := Int.mul_le_mul (by omega) (by omega) (by omega) (by omega)
       have b3 : 0 ≤ u * (e2 : Int) := Int.mul_nonneg hu.1 (by omega)
       have b4 : u * (e2 : Int) ≤ 55440 * 55440 := Int.mul_le_mul (by omega) (by omega) (by omega) (by omega)
       obtain ⟨P1, hP1⟩ : ∃ P1, v * (e1 : Int) = P1 := ⟨_, rfl⟩
       obtain ⟨P2, hP2⟩ : ∃ P2, u * (e2 : Int) = P2 := ⟨_, rfl⟩
       rw [hP1] at b1 b2 hsm
       rw [hP2] at b3 b4 hsm
       have u1 : IntKind.i64.wrap (v * (e1 : Int)) = P1 := by rw [hP1]; exact wrap_in (by omega) (by omega)
       have u2 : IntKind.i64.wrap (u * (e2 : Int)) = P2 := by rw [hP2]; exact wrap_in (by omega) (by omega)
       clear hP1 hP2
       obtain ⟨P3, hP3⟩ : ∃ P3, P1 + P2 = P3 := ⟨_, rfl⟩
       have u3 : IntKind.i64.wrap (P1 + P2) = P3 := by rw [hP3]; exact wrap_in (by omega) (by omega)
       rw [hP3] at hsm
       obtain ⟨Y, hY⟩ : ∃ Y, P3 % (D : Int) = Y := ⟨_, rfl⟩
       rw [hY] at hsm
       have HY := hide hY
       clear hY hP3
       have HR := hide (show ∀ wx, Below W.heap.size W wx → wx.cell? ⟨w.heap.size, 1, none⟩ = some (.int .i64 D1) ∧ wx.cell? ⟨w.heap.size + 1, 1, none⟩ = some (.int .i64 D2) from fun wx hwx => ⟨(hwx.cell (p := ⟨w.heap.size, 1, none⟩) hszW).trans q1, (hwx.cell (p := ⟨w.heap.size + 1, 1, none⟩) hszW1).trans p1⟩)
       go_wp2_with fail
       clear cu
       refine wp_region_ord [0, 1, 2, 3, 4, 5, 6, 7, 8, 9, 10, 11, 12, 13, 14, 15, 16, 17, 18, 19, 20, 21, 22] 21 (fun w' => (w'.cell? ⟨g, 0, none⟩ = some vo ∧ w'.cell? ⟨g, 1, none⟩ = some (.int .i64 D) ∧ w'.cell? ⟨g, 2, none⟩ = some vv) ∧ w'.cell? ⟨w.heap.size, 1, none⟩ = some (.int .i64 D1) ∧ w'.cell? ⟨w.heap.size + 1, 1, none⟩ = some (.int .i64 D2)) (by kernel_rfl) (by kernel_rfl) (by kernel_rfl) (fun _ _ _ _ _ h => h) ⟨hI.reads, HR.out _ hI.below.drew⟩ ?_
       repeat (apply ord_take rfl (by rfl) (by rfl); (focus (intro w hSw; (try dsimp only at hSw); go_simp; (try with_reducible rfl))); (try simp only [Act.put, List.setIfInBounds_toArray, List.set_cons_zero, List.set_cons_succ]))
       have hwz := hI.below.size
       refine ord_do rfl (by rfl) (by rfl) (fun K hK => ?_)
       go_simp
       refine (rest_any _ _ _ _ _ (by omega) (by omega)).mono ?_
       rw [HY.out]
       rintro e w1 ⟨rfl, hr1⟩
       have hsz1 := hr1.size
       simp only [heap_drew] at hr1 hsz1
       have hK1 := hI.drew.all hr1 (by simp; omega)
       refine hK.out _ _ (fun _ => ⟨hK1.reads, HR.out _ hK1.below⟩) ?_
       (try simp only [Act.put, List.setIfInBounds_toArray, List.set_cons_zero, List.set_cons_succ])
       clear hK K
       refine ord_do rfl (by rfl) (by rfl) (fun K hK => ?_)
       go_simp
       have hJ := hK1.alloc (by omega) (.cells #[.int .i64 Y] 2)
       refine hK.out _ _ (fun _ => ⟨hJ.reads, HR.out _ hJ.below⟩) ?_
       (try simp only [Act.put, List.setIfInBounds_toArray, List.set_cons_zero, List.set_cons_succ])
       clear hK K
       refine ord_do rfl (by rfl) (by rfl) (fun K hK => ?_)
       refine wp_push _ _ _ (by rfl) W.heap.size vv xs (by rfl) hJ.vals _ w1.heap.size _ (by rfl) (Blk.new _ _ _) (by omega) (by simp; omega) (by simp) ?_
       intro g2 cap2 w2 hP
       have o2 := hJ.pushed hP
       have hK2 := hJ.below.trans (hP.below hJ.vals (by simp; omega))
       refine hK.out _ _ (fun _ => ⟨⟨o2.cell 0, o2.cell 1, o2.cell 2⟩, HR.out _ hK2⟩) ?_
       (try simp only [Act.put, List.setIfInBounds_toArray, List.set_cons_zero, List.set_cons_succ])
       clear hK K
       refine ord_do rfl (by rfl) (by rfl) (fun K hK => ?_)
       go_simp
       refine hK.out _ _ (fun h => absurd h (by omega)) ?_
       (try simp only [Act.put, List.setIfInBounds_toArray, List.set_cons_zero, List.set_cons_succ])
       clear hK K
       have c2' := o2.cell 2
       have f2' := o2.frozen 2
       refine ord_do rfl (by rfl) (by rfl) (fun K hK => ?_)
       go_simp
       refine hK.out _ _ (fun h => absurd h (by omega)) ?_
       (try simp only [Act.put, List.setIfInBounds_toArray, List.set_cons_zero, List.set_cons_succ])
       clear hK K
       refine ord_nil ?_
       clear u1 u2 u3
       go_wp2
       go_roundw
       case rel => exact ⟨j + 1, _, by omega, by go_num, by rw [hsm.out, ← List.append_assoc, hX.out]; exact hJ.step hP (by simp; omega) (by have := hRs.out; omega) (by omega) (hK1.ordsNe (by omega))⟩
       case measure => simp [intOf]; omega
      ·obtain rfl : j = vs2.length := by omega
       have hE := hide (show sumL D e1 e2 (vs1.take (k + 1)) vs2 = xs by rw [hsn.out, ← hX.out, List.take_length])
       go_wp2_with fail
       go_roundw
       case rel => exact ⟨k + 1, vv, by omega, by go_num, by rw [hE.out]; exact hI⟩
       case measure => simp [intOf]; omega
    ·obtain ⟨xs, hxs⟩ : ∃ xs, sumL D e1 e2 (vs1.take k) vs2 = xs := ⟨_, rfl⟩
     rw [hxs] at hI
     have hTk := hide (show sumL D e1 e2 vs1 vs2 = xs by rw [← hxs, show k = vs1.length by omega, List.take_length])
     clear hxs
     obtain ⟨A5, c5, rfl⟩ := hI.vals.val
     obtain ⟨o0, o1, o2⟩ := hI.reads
     have hres := hI.res
     rw [← hVO.out] at hI o0
     have r0 := hres.cell 0
     have r1 := hres.cell 1
     have r2 := hres.cell 2
     have f0 := hres.frozen 0
     have f1 := hres.frozen 1
     have f2 := hres.frozen 2
     go_wp2
     have hb3 := put3_blk (x := .slice Av N cv) (y := .int .i64 D) (z := .slice A5 xs.length c5) hres
     have q0 := hb3.cell 0
     have q1 := hb3.cell 1
     have q2 := hb3.cell 2
     unfold put3 at q0 q1 q2
     refine bodyPost_ret (v := .tuple #[.agg #[.slice Av N cv, .int .i64 D, .slice A5 xs.length c5], .int .i64 0]) (by simp [results, Tryz.results79, go_sem, q0, q1, q2]) rfl ?_
     rw [hTk.out]
     exact (hI.weak hbW (Nat.le_of_lt hszW)).done (by omega)
 ·skip
  (refine ot_do rfl (by rfl) (by rfl) (fun K hK => ?_); go_simp; obtain ⟨wa, g, hg, hwa, hBa, hsub, bO, hgB⟩ := be_alloc hBe 26 #[.slice none 0 0, .int .i64 0, .slice none 0 0]; rw [hwa, hg]; clear hwa hg; (try replace hO := hO.below hsub); (try replace bS := bS.all hsub); clear hBe hsub; have hBe := hBa; clear hBa; refine hK.out _ _ (fun _ => hBe) ?_; (try simp only [Act.put, List.setIfInBounds_toArray, List.set_cons_zero, List.set_cons_succ]); clear hK K)
  repeat (first | (apply ot_tk rfl (by rfl) (by rfl) (by rfl); (focus (intro wx hSw; have r0 := (hSw.cell (p := ⟨w.heap.size, 0, none⟩) hszW).trans q0; have r1 := (hSw.cell (p := ⟨w.heap.size, 1, none⟩) hszW).trans q1; have r2 := (hSw.cell (p := ⟨w.heap.size, 2, none⟩) hszW).trans q2; have r3 := (hSw.cell (p := ⟨w.heap.size + 1, 0, none⟩) hszW1).trans p0; have r4 := (hSw.cell (p := ⟨w.heap.size + 1, 1, none⟩) hszW1).trans p1; have r5 := (hSw.cell (p := ⟨w.heap.size + 1, 2, none⟩) hszW1).trans p2; go_simp; (try with_reducible rfl))); (try simp only [Act.put, List.setIfInBounds_toArray, List.set_cons_zero, List.set_cons_succ])) | (apply ot_skip rfl (by rfl) (by rfl) (fun _ => hBe); (try simp only [Act.put, List.setIfInBounds_toArray, List.set_cons_zero, List.set_cons_succ])))
  (refine ot_do rfl (by rfl) (by rfl) (fun K hK => ?_); go_simp; obtain ⟨ws, S, hg, hwa, hBa, hsub, bS, hSB⟩ := be_alloc hBe 24 #[.slice A1 os1.length c1, .slice (some ⟨ab, ao, none⟩) os2.length c2]; rw [hwa, hg]; clear hwa hg; (try replace bO := bO.all hsub); clear hBe hsub; have hBe := hBa; clear hBa; refine hK.out _ _ (fun _ => hBe) ?_; (try simp only [Act.put, List.setIfInBounds_toArray, List.set_cons_zero, List.set_cons_succ]); clear hK K)
  repeat (first | (apply ot_tk rfl (by rfl) (by rfl) (by rfl); (focus (intro wx hSw; have r0 := (hSw.cell (p := ⟨w.heap.size, 0, none⟩) hszW).trans q0; have r1 := (hSw.cell (p := ⟨w.heap.size, 1, none⟩) hszW).trans q1; have r2 := (hSw.cell (p := ⟨w.heap.size, 2, none⟩) hszW).trans q2; have r3 := (hSw.cell (p := ⟨w.heap.size + 1, 0, none⟩) hszW1).trans p0; have r4 := (hSw.cell (p := ⟨w.heap.size + 1, 1, none⟩) hszW1).trans p1; have r5 := (hSw.cell (p := ⟨w.heap.size + 1, 2, none⟩) hszW1).trans p2; go_simp; (try with_reducible rfl))); (try simp only [Act.put, List.setIfInBounds_toArray, List.set_cons_zero, List.set_cons_succ])) | (apply ot_skip rfl (by rfl) (by rfl) (fun _ => hBe); (try simp only [Act.put, List.setIfInBounds_toArray, List.set_cons_zero, List.set_cons_succ])))
  (refine ot_do rfl (by rfl) (by rfl) (fun K hK => ?_); go_simp; refine (concat_any _ S 2 (fun k => if k = 0 then A1 else some ⟨ab, ao, none⟩) (fun k => if k = 0 then os1.length else os2.length) (fun k => if k = 0 then c1 else c2) (fun k => if k = 0 then os1 else os2) (fun k hk => by obtain rfl | rfl : k = 0 ∨ k = 1 := (by omega); exact bS.cell 0; exact bS.cell 1) bS.lt (fun k hk => by obtain rfl | rfl : k = 0 ∨ k = 1 := (by omega); exact (hs1.below (hBe.mono (Nat.le_of_lt hszW))).more (by have := hBe.size; omega); exact (hs2.below (hBe.mono (Nat.le_of_lt hszW))).more (by have := hBe.size; omega)) (fun k hk => by obtain rfl | rfl : k = 0 ∨ k = 1 := (by omega); exact hp1; exact hp2) (by omega) (by rw [hCat.out, List.length_append]; omega) (by rw [hCat.out, List.length_append]; omega)).mono ?_; rw [hCat.out]; rintro e wn ⟨v, rfl, hO, hb2⟩; obtain ⟨Av, cv, hvv⟩ := hO.val; rw [hNN.out] at hvv; subst hvv; (try replace bO := bO.all hb2); replace hO := hO.less (show W.heap.size ≤ _ from hBe.size); replace hBe := hBe.trans (hb2.mono hBe.size); clear hb2 bS; refine hK.out _ _ (fun _ => hBe) ?_; (try simp only [Act.put, List.setIfInBounds_toArray, List.set_cons_zero, List.set_cons_succ]); clear hK K)
  repeat (first | (apply ot_tk rfl (by rfl) (by rfl) (by rfl); (focus (intro wx hSw; have r0 := (hSw.cell (p := ⟨w.heap.size, 0, none⟩) hszW).trans q0; have r1 := (hSw.cell (p := ⟨w.heap.size, 1, none⟩) hszW).trans q1; have r2 := (hSw.cell (p := ⟨w.heap.size, 2, none⟩) hszW).trans q2; have r3 := (hSw.cell (p := ⟨w.heap.size + 1, 0, none⟩) hszW1).trans p0; have r4 := (hSw.cell (p := ⟨w.heap.size + 1, 1, none⟩) hszW1).trans p1; have r5 := (hSw.cell (p := ⟨w.heap.size + 1, 2, none⟩) hszW1).trans p2; go_simp; (try with_reducible rfl))); (try simp only [Act.put, List.setIfInBounds_toArray, List.set_cons_zero, List.set_cons_succ])) | (apply ot_skip rfl (by rfl) (by rfl) (fun _ => hBe); (try simp only [Act.put, List.setIfInBounds_toArray, List.set_cons_zero, List.set_cons_succ])))
  (refine ot_do rfl (by rfl) (by rfl) (fun K hK => ?_); go_simp; refine ((hCom _).mono fun _ _ h => Qt.re h).mono ?_; rintro e wq ⟨rfl, hb2⟩; (try replace bO := bO.all hb2); (try replace hO := hO.below hb2); replace hBe := hBe.trans (hb2.mono hBe.size); clear hb2; refine hK.out _ _ (fun _ => hBe) ?_; (try simp only [Act.put, List.setIfInBounds_toArray, List.set_cons_zero, List.set_cons_succ]); clear hK K)
  repeat (first | (apply ot_tk rfl (by rfl) (by rfl) (by rfl); (focus (intro wx hSw; have r0 := (hSw.cell (p := ⟨w.heap.size, 0, none⟩) hszW).trans q0; have r1 := (hSw.cell (p := ⟨w.heap.size, 1, none⟩) hszW).trans q1; have r2 := (hSw.cell (p := ⟨w.heap.size, 2, none⟩) hszW).trans q2; have r3 := (hSw.cell (p := ⟨w.heap.size + 1, 0, none⟩) hszW1).trans p0; have r4 := (hSw.cell (p := ⟨w.heap.size + 1, 1, none⟩) hszW1).trans p1; have r5 := (hSw.cell (p := ⟨w.heap.size + 1, 2, none⟩) hszW1).trans p2; go_simp; (try with_reducible rfl))); (try simp only [Act.put, List.setIfInBounds_toArray, List.set_cons_zero, List.set_cons_succ])) | (apply ot_skip rfl (by rfl) (by rfl) (fun _ => hBe); (try simp only [Act.put, List.setIfInBounds_toArray, List.set_cons_zero, List.set_cons_succ])))
  have r0 := bO.cell 0
  have r1 := bO.cell 1
  have r2 := bO.cell 2
  have f0 := bO.frozen 0
  have f1 := bO.frozen 1
  have f2 := bO.frozen 2
  have hI : MetIn W W.heap.size (w.heap.size + 1 + 1) g (.slice Av N cv) (os1 ++ os2) D (.slice none 0 0) [] (put3 wq g (.slice Av N cv) (.int .i64 D) (.slice none 0 0)) := ⟨put3_far (bR.all hBe) (by omega), put3_own bO (by decide) hO, put3_blk bO, Ow.nil _ _, fun b hb => by simp [Value.ownBlock], put3_below hBe hgB⟩
  refine ot_do rfl (by rfl) (by rfl) (fun K hK => ?_)
  go_simp
  refine hK.out _ _ (fun h => absurd h (by omega)) ?_
  (try simp only [Act.put, List.setIfInBounds_toArray, List.set_cons_zero, List.set_cons_succ])
  clear hK K
  refine ot_nil ?_
  clear r0 r1 r2 f0 f1 f2 bO hO
  have hRs := hide (show w.heap.size + 1 + 1 < g by omega)
  have hS0 := hide (show sumL D e1 e2 (vs1.take 0) vs2 = [] from rfl)
  have hR0 := hide (fun v => show sumR D e1 e2 v (vs2.take 0) = [] from rfl)
  obtain ⟨vo, hvo⟩ : ∃ vo, Value.slice Av N cv = vo := ⟨_, rfl⟩
  have hVO := hide hvo
  obtain ⟨W3, hW3⟩ : ∃ W3, put3 wq g (.slice Av N cv) (.int .i64 D) (.slice none 0 0) = W3 := ⟨_, rfl⟩
  unfold put3 at hW3
  unfold put3 at hI
  rw [hW3, hvo] at hI
  clear hvo
  rw [hW3]
  clear hW3
  have c2 := (hI.below.cell (p := ⟨w.heap.size, 2, none⟩) hszW).trans q2
  go_wp2_with fail
  clear c2
  go_loopw [58] (fun x wr => ∃ (k : Nat) (vv : Value), k ≤ vs1.length ∧ x = .int .i64 k ∧ MetIn W W.heap.size (w.heap.size + 1 + 1) g vo (os1 ++ os2) D vv (sumL D e1 e2 (vs1.take k) vs2) wr) (fun x _ => vs1.length - (intOf x).toNat)
  case atStart => exact ⟨0, _, by omega, rfl, by rw [hS0.out]; exact hI⟩
  case round =>
   clear hI hBe
   obtain ⟨k, vv, hk, rfl, hI⟩ := hrel
   by_cases hlt : k < vs1.length
   ·obtain ⟨b, off, rfl, hb, hc⟩ := hg1.at_ (by omega)
    have cv := hc k hlt
    clear hc
    have hv := hok1.rng _ (gi_mem hlt)
    have hsn := hide (sumL_snoc D e1 e2 vs2 hlt)
    obtain ⟨v, ev⟩ : ∃ v, gi vs1 k = v := ⟨_, rfl⟩
    rw [ev] at cv hv hsn
    clear ev
    have cv2 := (hI.below.cell (p := ⟨b, off + k, none⟩) (by show b < W.heap.size; omega)).trans cv
    have c2 := (hI.below.cell (p := ⟨w.heap.size + 1, 2, none⟩) hszW1).trans p2
    go_wp2_with fail
    clear c2 cv2 cv
    go_loopw [65] (fun y wr => ∃ (j : Nat) (vv : Value), j ≤ vs2.length ∧ y = .int .i64 j ∧ MetIn W W.heap.size (w.heap.size + 1 + 1) g vo (os1 ++ os2) D vv (sumL D e1 e2 (vs1.take k) vs2 ++ sumR D e1 e2 v (vs2.take j)) wr) (fun y _ => vs2.length - (intOf y).toNat)
    case atStart => exact ⟨0, vv, by omega, rfl, by rw [hR0.out, List.append_nil]; exact hI⟩
    case round =>
     clear hI
     obtain ⟨j, vv, hj, rfl, hI⟩ := hrel
     obtain ⟨xs, hxs⟩ : ∃ xs, sumL D e1 e2 (vs1.take k) vs2 ++ sumR D e1 e2 v (vs2.take j) = xs := ⟨_, rfl⟩
     have hlen : xs.length ≤ 1000 := by
      rw [← hxs, List.length_append, sumL_len, sumR_len]
      have : (vs1.take k).length * vs2.length ≤ 16 * 16 := Nat.mul_le_mul (by rw [List.length_take]; omega) hv2
      have : (vs2.take j).length ≤ 16 := by rw [List.length_take]; omega
      omega
     rw [hxs] at hI
     have hX := hide hxs
     clear hxs
     have hsz := hI.out.lt
     by_cases hlj : j < vs2.length
     ·obtain ⟨b', off', rfl, hb', hc'⟩ := hg2.at_ (by omega)
      have cu := (hI.below.cell (p := ⟨b', off' + j, none⟩) (by show b' < W.heap.size; omega)).trans (hc' j hlj)
      clear hc'
      have hu := hok2.rng _ (gi_mem hlj)
      have hsm := hide (sumR_snoc D e1 e2 v hlj)
      obtain ⟨u, eu⟩ : ∃ u, gi vs2 j = u := ⟨_, rfl⟩
      rw [eu] at cu hu hsm
      clear eu
      have b1 : 0 ≤ v * (e1 : Int) := Int.mul_nonneg hv.1 (by omega)
      have b2 : v * (e1 : Int) ≤ 55440 * 55440 := Int.mul_le_mul (by omega) (by omega) (by omega) (by omega)
      have b3 : 0 ≤ u * (e2 : Int) := Int.mul_nonneg hu.1 (by omega)
      have b4 : u * (e2 : Int) ≤ 55440 * 55440 := Int.mul_le_mul (by omega) (by omega) (by omega) (by omega)
      obtain ⟨P1, hP1⟩ : ∃ P1, v * (e1 : Int) = P1 := ⟨_, rfl⟩
      obtain ⟨P2, hP2⟩ : ∃ P2, u * (e2 : Int) = P2 := ⟨_, rfl⟩
      rw [hP1] at b1 b2 hsm
      rw [hP2] at b3 b4 hsm
      have u1 : IntKind.i64.wrap (v * (e1 : Int)) = P1 := by rw [hP1]; exact wrap_in (by omega) (by omega)
      have u2 : IntKind.i64.wrap (u * (e2 : Int)) = P2 := by rw [hP2]; exact wrap_in (by omega) (by omega)
      clear hP1 hP2
      obtain ⟨P3, hP3⟩ : ∃ P3, P1 + P2 = P3 := ⟨_, rfl⟩
      have u3 : IntKind.i64.wrap (P1 + P2) = P3 := by rw [hP3]; exact wrap_in (by omega) (by omega)
      rw [hP3] at hsm
      obtain ⟨Y, hY⟩ : ∃ Y, P3 % (D : Int) = Y := ⟨_, rfl⟩
      rw [hY] at hsm
      have HY := hide hY
      clear hY hP3
      have HR := hide (show ∀ wx, Below W.heap.size W wx → wx.cell? ⟨w.heap.size, 1, none⟩ = some (.int .i64 D1) ∧ wx.cell? ⟨w.heap.size + 1, 1, none⟩ = some (.int .i64 D2) from fun wx hwx => ⟨(hwx.cell (p := ⟨w.heap.size, 1, none⟩) hszW).trans q1, (hwx.cell (p := ⟨w.heap.size + 1, 1, none⟩) hszW1).trans p1⟩)
      go_wp2_with fail
      clear cu
      refine wp_region_ord [0, 1, 2, 3, 4, 5, 6, 7, 8, 9, 10, 11, 12, 13, 14, 15, 16, 17, 18, 19, 20, 21, 22] 21 (fun w' => (w'.cell? ⟨g, 0, none⟩ = some vo ∧ w'.cell? ⟨g, 1, none⟩ = some (.int .i64 D) ∧ w'.cell? ⟨g, 2, none⟩ = some vv) ∧ w'.cell? ⟨w.heap.size, 1, none⟩ = some (.int .i64 D1) ∧ w'.cell? ⟨w.heap.size + 1, 1, none⟩ = some (.int .i64 D2)) (by kernel_rfl) (by kernel_rfl) (by kernel_rfl) (fun _ _ _ _ _ h => h) ⟨hI.reads, HR.out _ hI.below.drew⟩ ?_
      repeat (apply ord_take rfl (by rfl) (by rfl); (focus (intro w hSw; (try dsimp only at hSw); go_simp; (try with_reducible rfl))); (try simp only [Act.put, List.setIfInBounds_toArray, List.set_cons_zero, List.set_cons_succ]))
      have hwz := hI.below.size
      refine ord_do rfl (by rfl) (by rfl) (fun K hK => ?_)
      go_simp
      refine (rest_any _ _ _ _ _ (by omega) (by omega)).mono ?_
      rw [HY.out]
      rintro e w1 ⟨rfl, hr1⟩
      have hsz1 := hr1.size
      simp only [heap_drew] at hr1 hsz1
      have hK1 := hI.drew.all hr1 (by simp; omega)
      refine hK.out _ _ (fun _ => ⟨hK1.reads, HR.out _ hK1.below⟩) ?_
      (try simp only [Act.put, List.setIfInBounds_toArray, List.set_cons_zero, List.set_cons_succ])
      clear hK K
      refine ord_do rfl (by rfl) (by rfl) (fun K hK => ?_)
      go_simp
      have hJ := hK1.alloc (by omega) (.cells #[.int .i64 Y] 2)
      refine hK.out _ _ (fun _ => ⟨hJ.reads, HR.out _ hJ.below⟩) ?_
      (try simp only [Act.put, List.setIfInBounds_toArray, List.set_cons_zero, List.set_cons_succ])
      clear hK K
      refine ord_do rfl (by rfl) (by rfl) (fun K hK => ?_)
      refine wp_push _ _ _ (by rfl) W.heap.size vv xs (by rfl) hJ.vals _ w1.heap.size _ (by rfl) (Blk.new _ _ _) (by omega) (by simp; omega) (by simp) ?_
      intro g2 cap2 w2 hP
      have o2 := hJ.pushed hP
      have hK2 := hJ.below.trans (hP.below hJ.vals (by simp; omega))
      refine hK.out _ _ (fun _ => ⟨⟨o2.cell 0, o2.cell 1, o2.cell 2⟩, HR.out _ hK2⟩) ?_
      (try simp only [Act.put, List.setIfInBounds_toArray, List.set_cons_zero, List.set_cons_succ])
      clear hK K
      refine ord_do rfl (by rfl) (by rfl) (fun K hK => ?_)
      go_simp
      refine hK.out _ _ (fun h => absurd h (by omega)) ?_
      (try simp only [Act.put, List.setIfInBounds_toArray, List.set_cons_zero, List.set_cons_succ])
      clear hK K
      have c2' := o2.cell 2
      have f2' := o2.frozen 2
      refine ord_do rfl (by rfl) (by rfl) (fun K hK => ?_)
      go_simp
      refine hK.out _ _ (fun h => absurd h (by omega)) ?_
      (try simp only [Act.put, List.setIfInBounds_toArray, List.set_cons_zero, List.set_cons_succ])
      clear hK K
      refine ord_nil ?_
      clear u1 u2 u3
      go_wp2
      go_roundw
      case rel => exact ⟨j + 1, _, by omega, by go_num, by rw [hsm.out, ← List.append_assoc, hX.out]; exact hJ.step hP (by simp; omega) (by have := hRs.out; omega) (by omega) (hK1.ordsNe (by omega))⟩
      case measure => simp [intOf]; omega
     ·obtain rfl : j = vs2.length := by omega
      have hE := hide (show sumL D e1 e2 (vs1.take (k + 1)) vs2 = xs by rw [hsn.out, ← hX.out, List.take_length])
      go_wp2_with fail
      go_roundw
      case rel => exact ⟨k + 1, vv, by omega, by go_num, by rw [hE.out]; exact hI⟩
      case measure => simp [intOf]; omega
   ·obtain ⟨xs, hxs⟩ : ∃ xs, sumL D e1 e2 (vs1.take k) vs2 = xs := ⟨_, rfl⟩
    rw [hxs] at hI
    have hTk := hide (show sumL D e1 e2 vs1 vs2 = xs by rw [← hxs, show k = vs1.length by omega, List.take_length])
    clear hxs
    obtain ⟨A5, c5, rfl⟩ := hI.vals.val
    obtain ⟨o0, o1, o2⟩ := hI.reads
    have hres := hI.res
    rw [← hVO.out] at hI o0
    have r0 := hres.cell 0
    have r1 := hres.cell 1
    have r2 := hres.cell 2
    have f0 := hres.frozen 0
    have f1 := hres.frozen 1
    have f2 := hres.frozen 2
    go_wp2
    have hb3 := put3_blk (x := .slice Av N cv) (y := .int .i64 D) (z := .slice A5 xs.length c5) hres
    have q0 := hb3.cell 0
    have q1 := hb3.cell 1
    have q2 := hb3.cell 2
    unfold put3 at q0 q1 q2
    refine bodyPost_ret (v := .tuple #[.agg #[.slice Av N cv, .int .i64 D, .slice A5 xs.length c5], .int .i64 0]) (by simp [results, Tryz.results79, go_sem, q0, q1, q2]) rfl ?_
    rw [hTk.out]
    exact (hI.weak hbW (Nat.le_of_lt hszW)).done (by omega)

noncomputable def noC (os1 : List Int) (D1 : Int) (vs1 os2 : List Int) (D2 : Int) (vs2 : List Int) : Int := if (isM os1 D1 vs1 && isM os2 D2 vs2) = true then 3 else 1
set_option maxHeartbeats 8000000 in
theorem impl_Sum_no (w : World) (A1 : Option Addr) (n1 c1 : Nat) (os1 : List Int) (D1 : Int) (B1 : Option Addr) (m1 k1 : Nat) (vs1 : List Int) (A2 : Option Addr) (n2 c2 : Nat) (os2 : List Int) (D2 : Int) (B2 : Option Addr) (m2 k2 : Nat) (vs2 : List Int)
  (h1 : Sl w w.heap.size A1 n1 c1 os1) (g1 : Sl w w.heap.size B1 m1 k1 vs1) (h2 : Sl w w.heap.size A2 n2 c2 os2) (g2 : Sl w w.heap.size B2 m2 k2 vs2) (hn1 : n1 ≤ 1048576) (hm1 : m1 ≤ 1048576) (hn2 : n2 ≤ 1048576) (hm2 : m2 ≤ 1048576)
  (hno : ¬ (IsM os1 D1 vs1 ∧ IsM os2 D2 vs2 ∧ prodL os1 * prodL os2 ≤ 16 ∧ os1.length + os2.length ≤ 4)) :
  Calls Tryz.prog 79 #[.agg #[.slice A1 n1 c1, .int .i64 D1, .slice B1 m1 k1], .agg #[.slice A2 n2 c2, .int .i64 D2, .slice B2 m2 k2]] w (NoM w (noC os1 D1 vs1 os2 D2 vs2)) := by
 obtain rfl := h1.len
 obtain rfl := g1.len
 obtain rfl := h2.len
 obtain rfl := g2.len
 cases i1 : isM os1 D1 vs1 with
 | false =>
  have hC := hide (show noC os1 D1 vs1 os2 D2 vs2 = 1 by unfold noC; rw [i1]; rfl)
  go_enter Tryz.func79, Tryz.ntmps79
  go_wp2_with fail
  obtain ⟨W, hW⟩ : ∃ W, ((w.alloc (.cells #[.slice A1 os1.length c1, .int .i64 D1, .slice B1 vs1.length k1] 26)).alloc (.cells #[.slice A2 os2.length c2, .int .i64 D2, .slice B2 vs2.length k2] 26)).alloc (.cells #[.slice none 0 0, .int .i64 0, .slice none 0 0] 26) = W := ⟨_, rfl⟩
  have hbW : Below w.heap.size w W := by rw [← hW]; exact (by repeat (first | assumption | exact Below.refl _ _ | apply below_drewN | apply Below.drew | apply Below.alloc | apply Below.setCell | omega | (focus (simp; done)) | (focus (simp; omega))))
  have hsW := hide (show W.heap.size = w.heap.size + 3 by rw [← hW]; simp)
  have hszW : w.heap.size < W.heap.size := by rw [hsW.out]; omega
  have hszW1 : w.heap.size + 1 < W.heap.size := by rw [hsW.out]; omega
  have hszW2 : w.heap.size + 1 + 1 < W.heap.size := by rw [hsW.out]; omega
  have bM : Blk W w.heap.size 26 #[.slice A1 os1.length c1, .int .i64 D1, .slice B1 vs1.length k1] := by rw [← hW]; exact ((Blk.new _ _ _).alloc _).alloc _
  have bN : Blk W (w.heap.size + 1) 26 #[.slice A2 os2.length c2, .int .i64 D2, .slice B2 vs2.length k2] := by rw [← hW]; exact (Blk.new' _ _ _ _ (by simp)).alloc _
  have bR : Blk W (w.heap.size + 1 + 1) 26 #[.slice none 0 0, .int .i64 0, .slice none 0 0] := by rw [← hW]; exact Blk.new' _ _ _ _ (by simp)
  have q0 := bM.cell 0
  have q1 := bM.cell 1
  have q2 := bM.cell 2
  have p0 := bN.cell 0
  have p1 := bN.cell 1
  have p2 := bN.cell 2
  rw [hW]
  clear hW
  have hs1 := h1.below hbW
  have hg1 := g1.below hbW
  have hs2 := h2.below hbW
  have hg2 := g2.below hbW
  go_wp2_with fail
  refine (implIs_v false _ _ _ _ _ _ _ _ _ _ (hs1.more (Nat.le_of_lt hszW)) (hg1.more (Nat.le_of_lt hszW)) hn1 hm1 i1).mono ?_
  rintro e w2 ⟨rfl, hb2⟩
  replace hb2 : Below W.heap.size W w2 := hb2
  have hsW' := hsW.out
  have hres := bR.all hb2
  have r0 := hres.cell 0
  have r1 := hres.cell 1
  have r2 := hres.cell 2
  have f0 := hres.frozen 0
  have f1 := hres.frozen 1
  have f2 := hres.frozen 2
  go_wp2
  have hb3 := put3_blk (x := .slice none 0 0) (y := .int .i64 0) (z := .slice none 0 0) hres
  have q0 := hb3.cell 0
  have q1 := hb3.cell 1
  have q2 := hb3.cell 2
  unfold put3 at q0 q1 q2
  refine bodyPost_ret (v := .tuple #[.agg #[.slice none 0 0, .int .i64 0, .slice none 0 0], .int .i64 1]) (by simp [results, Tryz.results79, go_sem, q0, q1, q2]) rfl ?_
  exact ⟨by rw [hC.out], put3_below (hbW.trans (hb2.mono (Nat.le_of_lt hszW))) (by omega)⟩
 | true =>
  cases i2 : isM os2 D2 vs2 with
  | false =>
   have hC := hide (show noC os1 D1 vs1 os2 D2 vs2 = 1 by unfold noC; rw [i1, i2]; rfl)
   go_enter Tryz.func79, Tryz.ntmps79
   go_wp2_with fail
   obtain ⟨W, hW⟩ : ∃ W, ((w.alloc (.cells #[.slice A1 os1.length c1, .int .i64 D1, .slice B1 vs1.length k1] 26)).alloc (.cells #[.slice A2 os2.length c2, .int .i64 D2, .slice B2 vs2.length k2] 26)).alloc (.cells #[.slice none 0 0, .int .i64 0, .slice none 0 0] 26) = W := ⟨_, rfl⟩
   have hbW : Below w.heap.size w W := by rw [← hW]; exact (by repeat (first | assumption | exact Below.refl _ _ | apply below_drewN | apply Below.drew | apply Below.alloc | apply Below.setCell | omega | (focus (simp; done)) | (focus (simp; omega))))
   have hsW := hide (show W.heap.size = w.heap.size + 3 by rw [← hW]; simp)
   have hszW : w.heap.size < W.heap.size := by rw [hsW.out]; omega
   have hszW1 : w.heap.size + 1 < W.heap.size := by rw [hsW.out]; omega
   have hszW2 : w.heap.size + 1 + 1 < W.heap.size := by rw [hsW.out]; omega
   have bM : Blk W w.heap.size 26 #[.slice A1 os1.length c1, .int .i64 D1, .slice B1 vs1.length k1] := by rw [← hW]; exact ((Blk.new _ _ _).alloc _).alloc _
   have bN : Blk W (w.heap.size + 1) 26 #[.slice A2 os2.length c2, .int .i64 D2, .slice B2 vs2.length k2] := by rw [← hW]; exact (Blk.new' _ _ _ _ (by simp)).alloc _
   have bR : Blk W (w.heap.size + 1 + 1) 26 #[.slice none 0 0, .int .i64 0, .slice none 0 0] := by rw [← hW]; exact Blk.new' _ _ _ _ (by simp)
   have q0 := bM.cell 0
   have q1 := bM.cell 1
   have q2 := bM.cell 2
   have p0 := bN.cell 0
   have p1 := bN.cell 1
   have p2 := bN.cell 2
   rw [hW]
   clear hW
   have hs1 := h1.below hbW
   have hg1 := g1.below hbW
   have hs2 := h2.below hbW
   have hg2 := g2.below hbW
   go_wp2_with fail
   refine (implIs_v true _ _ _ _ _ _ _ _ _ _ (hs1.more (Nat.le_of_lt hszW)) (hg1.more (Nat.le_of_lt hszW)) hn1 hm1 i1).mono ?_
   rintro e w2 ⟨rfl, hb2⟩
   replace hb2 : Below W.heap.size W w2 := hb2
   have r3 := (hb2.cell (p := ⟨w.heap.size + 1, 0, none⟩) hszW1).trans p0
   have r4 := (hb2.cell (p := ⟨w.heap.size + 1, 1, none⟩) hszW1).trans p1
   have r5 := (hb2.cell (p := ⟨w.heap.size + 1, 2, none⟩) hszW1).trans p2
   go_wp2_with fail
   clear r3 r4 r5
   refine (implIs_v false _ _ _ _ _ _ _ _ _ _ ((hs2.below (hb2.mono (Nat.le_of_lt hszW))).more (by have := hb2.size; omega)) ((hg2.below (hb2.mono (Nat.le_of_lt hszW))).more (by have := hb2.size; omega)) hn2 hm2 i2).mono ?_
   rintro e w3 ⟨rfl, hb3⟩
   have k3 := hb2.trans (hb3.mono hb2.size)
   have hsW' := hsW.out
   clear hb2 hb3
   have hres := bR.all k3
   have r0 := hres.cell 0
   have r1 := hres.cell 1
   have r2 := hres.cell 2
   have f0 := hres.frozen 0
   have f1 := hres.frozen 1
   have f2 := hres.frozen 2
   go_wp2
   have hb3 := put3_blk (x := .slice none 0 0) (y := .int .i64 0) (z := .slice none 0 0) hres
   have q0 := hb3.cell 0
   have q1 := hb3.cell 1
   have q2 := hb3.cell 2
   unfold put3 at q0 q1 q2
   refine bodyPost_ret (v := .tuple #[.agg #[.slice none 0 0, .int .i64 0, .slice none 0 0], .int .i64 1]) (by simp [results, Tryz.results79, go_sem, q0, q1, q2]) rfl ?_
   exact ⟨by rw [hC.out], put3_below (hbW.trans (k3.mono (Nat.le_of_lt hszW))) (by omega)⟩
  | true =>
   have hM1 := isM_iff.1 i1
   have hM2 := isM_iff.1 i2
   have hG1 := hM1.ok.g
   have hG2 := hM2.ok.g
   have hp1 := hG1.p16
   have hp2 := hG2.p16
   have hq1 := hG1.ge
   have hq2 := hG2.ge
   have hC := hide (show noC os1 D1 vs1 os2 D2 vs2 = 3 by unfold noC; rw [i1, i2]; rfl)
   have hb1 : 0 ≤ prodL os1 * prodL os2 := Int.mul_nonneg (by omega) (by omega)
   have hb2 : prodL os1 * prodL os2 ≤ 16 * 16 := Int.mul_le_mul hp1 hp2 (by omega) (by omega)
   have hor : ¬ prodL os1 * prodL os2 ≤ 16 ∨ ¬ os1.length + os2.length ≤ 4 := by
    by_cases ha : prodL os1 * prodL os2 ≤ 16
    ·by_cases hb : os1.length + os2.length ≤ 4
     ·exact absurd ⟨hM1, hM2, ha, hb⟩ hno
     ·exact .inr hb
    ·exact .inl ha
   have hle1 := hG1.l4
   have hle2 := hG2.l4
   obtain ⟨P0, hP0⟩ : ∃ P0, prodL os1 * prodL os2 = P0 := ⟨_, rfl⟩
   rw [hP0] at hb1 hb2 hor
   have s1 : IntKind.i64.wrap ((vs1.length : Int) * (vs2.length : Int)) = P0 := by rw [hM1.ok.len, hM2.ok.len, hP0]; exact wrap_in (by omega) (by omega)
   have s2 : IntKind.i64.wrap ((os1.length : Int) + (os2.length : Int)) = (os1.length : Int) + (os2.length : Int) := wrap_in (by omega) (by omega)
   clear hP0 hno
   by_cases hP : P0 ≤ 16
   ·have hL : ¬ os1.length + os2.length ≤ 4 := by rcases hor with h | h; exact absurd hP h; exact h
    have s4 : decide ((16 : Int) < P0) = false := by rw [decide_eq_false_iff_not]; omega
    have s5 : decide ((4 : Int) < (os1.length : Int) + (os2.length : Int)) = true := by rw [decide_eq_true_eq]; omega
    clear hor
    go_enter Tryz.func79, Tryz.ntmps79
    go_wp2_with fail
    obtain ⟨W, hW⟩ : ∃ W, ((w.alloc (.cells #[.slice A1 os1.length c1, .int .i64 D1, .slice B1 vs1.length k1] 26)).alloc (.cells #[.slice A2 os2.length c2, .int .i64 D2, .slice B2 vs2.length k2] 26)).alloc (.cells #[.slice none 0 0, .int .i64 0, .slice none 0 0] 26) = W := ⟨_, rfl⟩
    have hbW : Below w.heap.size w W := by rw [← hW]; exact (by repeat (first | assumption | exact Below.refl _ _ | apply below_drewN | apply Below.drew | apply Below.alloc | apply Below.setCell | omega | (focus (simp; done)) | (focus (simp; omega))))
    have hsW := hide (show W.heap.size = w.heap.size + 3 by rw [← hW]; simp)
    have hszW : w.heap.size < W.heap.size := by rw [hsW.out]; omega
    have hszW1 : w.heap.size + 1 < W.heap.size := by rw [hsW.out]; omega
    have hszW2 : w.heap.size + 1 + 1 < W.heap.size := by rw [hsW.out]; omega
    have bM : Blk W w.heap.size 26 #[.slice A1 os1.length c1, .int .i64 D1, .slice B1 vs1.length k1] := by rw [← hW]; exact ((Blk.new _ _ _).alloc _).alloc _
    have bN : Blk W (w.heap.size + 1) 26 #[.slice A2 os2.length c2, .int .i64 D2, .slice B2 vs2.length k2] := by rw [← hW]; exact (Blk.new' _ _ _ _ (by simp)).alloc _
    have bR : Blk W (w.heap.size + 1 + 1) 26 #[.slice none 0 0, .int .i64 0, .slice none 0 0] := by rw [← hW]; exact Blk.new' _ _ _ _ (by simp)
    have q0 := bM.cell 0
    have q1 := bM.cell 1
    have q2 := bM.cell 2
    have p0 := bN.cell 0
    have p1 := bN.cell 1
    have p2 := bN.cell 2
    rw [hW]
    clear hW
    have hs1 := h1.below hbW
    have hg1 := g1.below hbW
    have hs2 := h2.below hbW
    have hg2 := g2.below hbW
    go_wp2_with fail
    refine (implIs_v true _ _ _ _ _ _ _ _ _ _ (hs1.more (Nat.le_of_lt hszW)) (hg1.more (Nat.le_of_lt hszW)) hn1 hm1 i1).mono ?_
    rintro e w2 ⟨rfl, hb2⟩
    replace hb2 : Below W.heap.size W w2 := hb2
    have r3 := (hb2.cell (p := ⟨w.heap.size + 1, 0, none⟩) hszW1).trans p0
    have r4 := (hb2.cell (p := ⟨w.heap.size + 1, 1, none⟩) hszW1).trans p1
    have r5 := (hb2.cell (p := ⟨w.heap.size + 1, 2, none⟩) hszW1).trans p2
    go_wp2_with fail
    clear r3 r4 r5
    refine (implIs_v true _ _ _ _ _ _ _ _ _ _ ((hs2.below (hb2.mono (Nat.le_of_lt hszW))).more (by have := hb2.size; omega)) ((hg2.below (hb2.mono (Nat.le_of_lt hszW))).more (by have := hb2.size; omega)) hn2 hm2 i2).mono ?_
    rintro e w3 ⟨rfl, hb3⟩
    have k3 := hb2.trans (hb3.mono hb2.size)
    have hsW' := hsW.out
    clear hb2 hb3
    go_wp2_with fail
    refine wp_region_be [0, 2, 1, 3, 4, 5, 6, 7, 8, 9, 10, 11, 12, 13, 14, 15] 16 W.heap.size W (by kernel_rfl) (by kernel_rfl) (by kernel_rfl) (fun _ _ _ _ _ h => h) k3 (fun wd hBe => ?_)
    repeat (first | (apply ord_tk rfl (by rfl) (by rfl) (by rfl); (focus (intro wx hSw; have r0 := (hSw.cell (p := ⟨w.heap.size, 0, none⟩) hszW).trans q0; have r1 := (hSw.cell (p := ⟨w.heap.size, 1, none⟩) hszW).trans q1; have r2 := (hSw.cell (p := ⟨w.heap.size, 2, none⟩) hszW).trans q2; have r3 := (hSw.cell (p := ⟨w.heap.size + 1, 0, none⟩) hszW1).trans p0; have r4 := (hSw.cell (p := ⟨w.heap.size + 1, 1, none⟩) hszW1).trans p1; have r5 := (hSw.cell (p := ⟨w.heap.size + 1, 2, none⟩) hszW1).trans p2; go_simp; (try with_reducible rfl))); (try simp only [Act.put, List.setIfInBounds_toArray, List.set_cons_zero, List.set_cons_succ])) | (apply ord_skip rfl (by rfl) (by rfl) (fun _ => hBe); (try simp only [Act.put, List.setIfInBounds_toArray, List.set_cons_zero, List.set_cons_succ])))
    refine ord_do rfl (by rfl) (by rfl) (fun K hK => ?_)
    go_simp
    refine (size_any _ _ _ _ _ _).mono ?_
    rintro e wd' ⟨rfl, hwd⟩
    replace hBe := hBe.trans (hwd.mono hBe.size)
    clear hwd
    refine hK.out _ _ (fun _ => hBe) ?_
    (try simp only [Act.put, List.setIfInBounds_toArray, List.set_cons_zero, List.set_cons_succ])
    clear hK K
    repeat (first | (apply ord_tk rfl (by rfl) (by rfl) (by rfl); (focus (intro wx hSw; have r0 := (hSw.cell (p := ⟨w.heap.size, 0, none⟩) hszW).trans q0; have r1 := (hSw.cell (p := ⟨w.heap.size, 1, none⟩) hszW).trans q1; have r2 := (hSw.cell (p := ⟨w.heap.size, 2, none⟩) hszW).trans q2; have r3 := (hSw.cell (p := ⟨w.heap.size + 1, 0, none⟩) hszW1).trans p0; have r4 := (hSw.cell (p := ⟨w.heap.size + 1, 1, none⟩) hszW1).trans p1; have r5 := (hSw.cell (p := ⟨w.heap.size + 1, 2, none⟩) hszW1).trans p2; go_simp; (try with_reducible rfl))); (try simp only [Act.put, List.setIfInBounds_toArray, List.set_cons_zero, List.set_cons_succ])) | (apply ord_skip rfl (by rfl) (by rfl) (fun _ => hBe); (try simp only [Act.put, List.setIfInBounds_toArray, List.set_cons_zero, List.set_cons_succ])))
    refine ord_do rfl (by rfl) (by rfl) (fun K hK => ?_)
    go_simp
    refine (size_any _ _ _ _ _ _).mono ?_
    rintro e wd' ⟨rfl, hwd⟩
    replace hBe := hBe.trans (hwd.mono hBe.size)
    clear hwd
    refine hK.out _ _ (fun _ => hBe) ?_
    (try simp only [Act.put, List.setIfInBounds_toArray, List.set_cons_zero, List.set_cons_succ])
    clear hK K
    repeat (first | (apply ord_tk rfl (by rfl) (by rfl) (by rfl); (focus (intro wx hSw; have r0 := (hSw.cell (p := ⟨w.heap.size, 0, none⟩) hszW).trans q0; have r1 := (hSw.cell (p := ⟨w.heap.size, 1, none⟩) hszW).trans q1; have r2 := (hSw.cell (p := ⟨w.heap.size, 2, none⟩) hszW).trans q2; have r3 := (hSw.cell (p := ⟨w.heap.size + 1, 0, none⟩) hszW1).trans p0; have r4 := (hSw.cell (p := ⟨w.heap.size + 1, 1, none⟩) hszW1).trans p1; have r5 := (hSw.cell (p := ⟨w.heap.size + 1, 2, none⟩) hszW1).trans p2; go_simp; (try with_reducible rfl))); (try simp only [Act.put, List.setIfInBounds_toArray, List.set_cons_zero, List.set_cons_succ])) | (apply ord_skip rfl (by rfl) (by rfl) (fun _ => hBe); (try simp only [Act.put, List.setIfInBounds_toArray, List.set_cons_zero, List.set_cons_succ])))
    refine ord_nil ?_
    clear s1 s2 k3
    have hres := bR.all hBe
    have r0 := hres.cell 0
    have r1 := hres.cell 1
    have r2 := hres.cell 2
    have f0 := hres.frozen 0
    have f1 := hres.frozen 1
    have f2 := hres.frozen 2
    go_wp2
    have hb3 := put3_blk (x := .slice none 0 0) (y := .int .i64 0) (z := .slice none 0 0) hres
    have q0 := hb3.cell 0
    have q1 := hb3.cell 1
    have q2 := hb3.cell 2
    unfold put3 at q0 q1 q2
    refine bodyPost_ret (v := .tuple #[.agg #[.slice none 0 0, .int .i64 0, .slice none 0 0], .int .i64 3]) (by simp [results, Tryz.results79, go_sem, q0, q1, q2]) rfl ?_
    exact ⟨by rw [hC.out], put3_below (hbW.trans (hBe.mono (Nat.le_of_lt hszW))) (by omega)⟩
   ·have s4 : decide ((16 : Int) < P0) = true := by rw [decide_eq_true_eq]; omega
    clear hor
    go_enter Tryz.func79, Tryz.ntmps79
    go_wp2_with fail
    obtain ⟨W, hW⟩ : ∃ W, ((w.alloc (.cells #[.slice A1 os1.length c1, .int .i64 D1, .slice B1 vs1.length k1] 26)).alloc (.cells #[.slice A2 os2.length c2, .int .i64 D2, .slice B2 vs2.length k2] 26)).alloc (.cells #[.slice none 0 0, .int .i64 0, .slice none 0 0] 26) = W := ⟨_, rfl⟩
    have hbW : Below w.heap.size w W := by rw [← hW]; exact (by repeat (first | assumption | exact Below.refl _ _ | apply below_drewN | apply Below.drew | apply Below.alloc | apply Below.setCell | omega | (focus (simp; done)) | (focus (simp; omega))))
    have hsW := hide (show W.heap.size = w.heap.size + 3 by rw [← hW]; simp)
    have hszW : w.heap.size < W.heap.size := by rw [hsW.out]; omega
    have hszW1 : w.heap.size + 1 < W.heap.size := by rw [hsW.out]; omega
    have hszW2 : w.heap.size + 1 + 1 < W.heap.size := by rw [hsW.out]; omega
    have bM : Blk W w.heap.size 26 #[.slice A1 os1.length c1, .int .i64 D1, .slice B1 vs1.length k1] := by rw [← hW]; exact ((Blk.new _ _ _).alloc _).alloc _
    have bN : Blk W (w.heap.size + 1) 26 #[.slice A2 os2.length c2, .int .i64 D2, .slice B2 vs2.length k2] := by rw [← hW]; exact (Blk.new' _ _ _ _ (by simp)).alloc _
    have bR : Blk W (w.heap.size + 1 + 1) 26 #[.slice none 0 0, .int .i64 0, .slice none 0 0] := by rw [← hW]; exact Blk.new' _ _ _ _ (by simp)
    have q0 := bM.cell 0
    have q1 := bM.cell 1
    have q2 := bM.cell 2
    have p0 := bN.cell 0
    have p1 := bN.cell 1
    have p2 := bN.cell 2
    rw [hW]
    clear hW
    have hs1 := h1.below hbW
    have hg1 := g1.below hbW
    have hs2 := h2.below hbW
    have hg2 := g2.below hbW
    go_wp2_with fail
    refine (implIs_v true _ _ _ _ _ _ _ _ _ _ (hs1.more (Nat.le_of_lt hszW)) (hg1.more (Nat.le_of_lt hszW)) hn1 hm1 i1).mono ?_
    rintro e w2 ⟨rfl, hb2⟩
    replace hb2 : Below W.heap.size W w2 := hb2
    have r3 := (hb2.cell (p := ⟨w.heap.size + 1, 0, none⟩) hszW1).trans p0
    have r4 := (hb2.cell (p := ⟨w.heap.size + 1, 1, none⟩) hszW1).trans p1
    have r5 := (hb2.cell (p := ⟨w.heap.size + 1, 2, none⟩) hszW1).trans p2
    go_wp2_with fail
    clear r3 r4 r5
    refine (implIs_v true _ _ _ _ _ _ _ _ _ _ ((hs2.below (hb2.mono (Nat.le_of_lt hszW))).more (by have := hb2.size; omega)) ((hg2.below (hb2.mono (Nat.le_of_lt hszW))).more (by have := hb2.size; omega)) hn2 hm2 i2).mono ?_
    rintro e w3 ⟨rfl, hb3⟩
    have k3 := hb2.trans (hb3.mono hb2.size)
    have hsW' := hsW.out
    clear hb2 hb3
    go_wp2_with fail
    refine wp_region_be [0, 2, 1, 3, 4, 5, 6, 7, 8, 9, 10, 11, 12, 13, 14, 15] 16 W.heap.size W (by kernel_rfl) (by kernel_rfl) (by kernel_rfl) (fun _ _ _ _ _ h => h) k3 (fun wd hBe => ?_)
    repeat (first | (apply ord_tk rfl (by rfl) (by rfl) (by rfl); (focus (intro wx hSw; have r0 := (hSw.cell (p := ⟨w.heap.size, 0, none⟩) hszW).trans q0; have r1 := (hSw.cell (p := ⟨w.heap.size, 1, none⟩) hszW).trans q1; have r2 := (hSw.cell (p := ⟨w.heap.size, 2, none⟩) hszW).trans q2; have r3 := (hSw.cell (p := ⟨w.heap.size + 1, 0, none⟩) hszW1).trans p0; have r4 := (hSw.cell (p := ⟨w.heap.size + 1, 1, none⟩) hszW1).trans p1; have r5 := (hSw.cell (p := ⟨w.heap.size + 1, 2, none⟩) hszW1).trans p2; go_simp; (try with_reducible rfl))); (try simp only [Act.put, List.setIfInBounds_toArray, List.set_cons_zero, List.set_cons_succ])) | (apply ord_skip rfl (by rfl) (by rfl) (fun _ => hBe); (try simp only [Act.put, List.setIfInBounds_toArray, List.set_cons_zero, List.set_cons_succ])))
    refine ord_do rfl (by rfl) (by rfl) (fun K hK => ?_)
    go_simp
    refine (size_any _ _ _ _ _ _).mono ?_
    rintro e wd' ⟨rfl, hwd⟩
    replace hBe := hBe.trans (hwd.mono hBe.size)
    clear hwd
    refine hK.out _ _ (fun _ => hBe) ?_
    (try simp only [Act.put, List.setIfInBounds_toArray, List.set_cons_zero, List.set_cons_succ])
    clear hK K
    repeat (first | (apply ord_tk rfl (by rfl) (by rfl) (by rfl); (focus (intro wx hSw; have r0 := (hSw.cell (p := ⟨w.heap.size, 0, none⟩) hszW).trans q0; have r1 := (hSw.cell (p := ⟨w.heap.size, 1, none⟩) hszW).trans q1; have r2 := (hSw.cell (p := ⟨w.heap.size, 2, none⟩) hszW).trans q2; have r3 := (hSw.cell (p := ⟨w.heap.size + 1, 0, none⟩) hszW1).trans p0; have r4 := (hSw.cell (p := ⟨w.heap.size + 1, 1, none⟩) hszW1).trans p1; have r5 := (hSw.cell (p := ⟨w.heap.size + 1, 2, none⟩) hszW1).trans p2; go_simp; (try with_reducible rfl))); (try simp only [Act.put, List.setIfInBounds_toArray, List.set_cons_zero, List.set_cons_succ])) | (apply ord_skip rfl (by rfl) (by rfl) (fun _ => hBe); (try simp only [Act.put, List.setIfInBounds_toArray, List.set_cons_zero, List.set_cons_succ])))
    refine ord_do rfl (by rfl) (by rfl) (fun K hK => ?_)
    go_simp
    refine (size_any _ _ _ _ _ _).mono ?_
    rintro e wd' ⟨rfl, hwd⟩
    replace hBe := hBe.trans (hwd.mono hBe.size)
    clear hwd
    refine hK.out _ _ (fun _ => hBe) ?_
    (try simp only [Act.put, List.setIfInBounds_toArray, List.set_cons_zero, List.set_cons_succ])
    clear hK K
    repeat (first | (apply ord_tk rfl (by rfl) (by rfl) (by rfl); (focus (intro wx hSw; have r0 := (hSw.cell (p := ⟨w.heap.size, 0, none⟩) hszW).trans q0; have r1 := (hSw.cell (p := ⟨w.heap.size, 1, none⟩) hszW).trans q1; have r2 := (hSw.cell (p := ⟨w.heap.size, 2, none⟩) hszW).trans q2; have r3 := (hSw.cell (p := ⟨w.heap.size + 1, 0, none⟩) hszW1).trans p0; have r4 := (hSw.cell (p := ⟨w.heap.size + 1, 1, none⟩) hszW1).trans p1; have r5 := (hSw.cell (p := ⟨w.heap.size + 1, 2, none⟩) hszW1).trans p2; go_simp; (try with_reducible rfl))); (try simp only [Act.put, List.setIfInBounds_toArray, List.set_cons_zero, List.set_cons_succ])) | (apply ord_skip rfl (by rfl) (by rfl) (fun _ => hBe); (try simp only [Act.put, List.setIfInBounds_toArray, List.set_cons_zero, List.set_cons_succ])))
    refine ord_nil ?_
    clear s1 s2 k3
    have hres := bR.all hBe
    have r0 := hres.cell 0
    have r1 := hres.cell 1
    have r2 := hres.cell 2
    have f0 := hres.frozen 0
    have f1 := hres.frozen 1
    have f2 := hres.frozen 2
    go_wp2
    have hb3 := put3_blk (x := .slice none 0 0) (y := .int .i64 0) (z := .slice none 0 0) hres
    have q0 := hb3.cell 0
    have q1 := hb3.cell 1
    have q2 := hb3.cell 2
    unfold put3 at q0 q1 q2
    refine bodyPost_ret (v := .tuple #[.agg #[.slice none 0 0, .int .i64 0, .slice none 0 0], .int .i64 3]) (by simp [results, Tryz.results79, go_sem, q0, q1, q2]) rfl ?_
    exact ⟨by rw [hC.out], put3_below (hbW.trans (hBe.mono (Nat.le_of_lt hszW))) (by omega)⟩

end Go.Proofs.YtbpihnpakolooaaGreatDoor
