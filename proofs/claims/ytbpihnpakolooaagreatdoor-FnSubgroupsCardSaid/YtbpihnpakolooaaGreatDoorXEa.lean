
/- Sums, sizes, digits and metrics of groups that may have no orders. The metric of no orders, as l10From makes it. -/
import Derived.Test.YtbpihnpakolooaaGreatDoorX2
import Derived.Test.YtbpihnpakolooaaGreatDoorAP
import Derived.Test.YtbpihnpakolooaaGreatDoorFR
import Derived.WalkLawsBesides
namespace Go.Proofs.YtbpihnpakolooaaGreatDoor
open Go Go.RowKit Grp
set_option linter.unusedSimpArgs false
set_option linter.unusedVariables false

/-- Orders, maybe none, and values below a divisor of 55440. -/
structure Ok0 (os : List Int) (D : Int) (vs : List Int) : Prop where
  l4 : os.length ≤ 4
  m2 : ∀ m ∈ os, 2 ≤ m ∧ m ≤ 16
  p16 : prodL os ≤ 16
  d1 : 1 ≤ D
  d2 : D ≤ 55440
  dv : 55440 % D = 0
  len : (vs.length : Int) = prodL os
  rng : ∀ v ∈ vs, 0 ≤ v ∧ v < D
theorem Ok0.lt {os vs : List Int} {D : Int} (h : Ok0 os D vs) : vs.length ≤ 16 := by have := h.len; have := h.p16; omega
theorem Ok0.g {os vs : List Int} {D : Int} (h : Ok0 os D vs) (hn : os ≠ []) : OkG os :=
  ⟨by cases os with | nil => exact absurd rfl hn | cons => simp, h.l4, fun m hm => (h.m2 m hm).1, fun m hm => (h.m2 m hm).2, h.p16⟩
theorem Ok0.ok {os vs : List Int} {D : Int} (h : Ok0 os D vs) (hn : os ≠ []) : OkM os D vs := ⟨h.g hn, h.d1, h.d2, h.len, h.rng⟩
theorem Ok0.pos {os vs : List Int} {D : Int} (h : Ok0 os D vs) : 1 ≤ prodL os := prodL_pos fun m hm => by have := (h.m2 m hm).1; omega

theorem l09Group_nil (w : World) (B : Nat) (A : Option Addr) (c : Nat) (h : Sl w B A 0 c []) : Calls Tryz.prog 120 #[.slice A 0 c] w (Qt w (.int .i64 1)) := by
  go_enter Tryz.func120, Tryz.ntmps120
  go_wp2
  go_loop [3, 4] (fun s i => i = .int .i64 0 ∧ s = .int .i64 1) (fun _ i => (intOf i).toNat)
  case atStart => exact ⟨rfl, rfl⟩
  case round =>
    obtain ⟨rfl, rfl⟩ := hrel
    go_wp2
    go_ret
    exact Qt.same
theorem l10Size_gen (w : World) (B : Nat) (A : Option Addr) (n c : Nat) (xs : List Int) (h : Sl w B A n c xs) (h4 : xs.length ≤ 4) (hm : ∀ m ∈ xs, 2 ≤ m ∧ m ≤ 16) (hp : prodL xs ≤ 16) : Calls Tryz.prog 69 #[.slice A n c] w (Qt w (.int .i64 (prodL xs))) := by
  by_cases e : xs = []
  · subst e
    obtain rfl := h.len
    go_enter Tryz.func69, Tryz.ntmps69
    go_wp2_with fail
    refine (l09Group_nil _ _ _ _ h).mono ?_
    rintro e w' ⟨rfl, m, rfl⟩
    go_wp2
    go_ret
    exact Qt.d1 rfl
  · exact l10Size_any w B A n c xs h ⟨by cases xs with | nil => exact absurd rfl e | cons => simp, h4, fun m k => (hm m k).1, fun m k => (hm m k).2, hp⟩
set_option maxHeartbeats 8000000 in
theorem l10Sum_gen (w : World) (A1 : Option Addr) (n1 c1 : Nat) (os1 : List Int) (D1 : Nat) (B1 : Option Addr) (m1 k1 : Nat) (vs1 : List Int) (A2 : Option Addr) (n2 c2 : Nat) (os2 : List Int) (D2 : Nat) (B2 : Option Addr) (m2 k2 : Nat) (vs2 : List Int)
    (h1 : Sl w w.heap.size A1 n1 c1 os1) (g1 : Sl w w.heap.size B1 m1 k1 vs1) (h2 : Sl w w.heap.size A2 n2 c2 os2) (g2 : Sl w w.heap.size B2 m2 k2 vs2) (hok1 : Ok0 os1 D1 vs1) (hok2 : Ok0 os2 D2 vs2) (q e D e1 e2 : Nat) (hQ : SumQ D1 D2 q e D e1 e2) :
    Calls Tryz.prog 76 #[.agg #[.slice A1 n1 c1, .int .i64 D1, .slice B1 m1 k1], .agg #[.slice A2 n2 c2, .int .i64 D2, .slice B2 m2 k2]] w (MkM1 w (os1 ++ os2) D (sumL D e1 e2 vs1 vs2)) := by
  obtain ⟨i0, hi0, hz0, hz1, hz2⟩ := info_parts int_info
  obtain rfl := h1.len
  obtain rfl := g1.len
  obtain rfl := h2.len
  obtain rfl := g2.len
  have hn1 := hok1.l4
  have hn2 := hok2.l4
  have hv1 := hok1.lt
  have hv2 := hok2.lt
  have D1a := hok1.d1
  have D1b := hok1.d2
  have D2a := hok2.d1
  have D2b := hok2.d2
  obtain ⟨hQg, Q1, hQd, hQm, hQd1, hQd2, Qb, Qb1, Qe1, Qe2, Qe⟩ := hQ
  have hCom := fun W => l10Common_any W D1 D2 (by omega) (by omega)
  rw [hQg] at hCom
  have t1 : (D1 : Int).tdiv q = e := by rw [Int.tdiv_eq_ediv_of_nonneg (by omega), ← hQd]; rfl
  have t1' : (D1 : Int) / q = e := by rw [← hQd]; rfl
  have t2 : IntKind.i64.wrap (e : Int) = e := wrap_in (by omega) (by omega)
  have t3 : IntKind.i64.wrap ((e : Int) * D2) = D := by rw [← Int.natCast_mul, hQm]; exact wrap_in (by omega) (by omega)
  have t4 : (D : Int).tdiv D1 = e1 := by rw [Int.tdiv_eq_ediv_of_nonneg (by omega), ← hQd1]; rfl
  have t4' : (D : Int) / D1 = e1 := by rw [← hQd1]; rfl
  have t5 : (D : Int).tdiv D2 = e2 := by rw [Int.tdiv_eq_ediv_of_nonneg (by omega), ← hQd2]; rfl
  have t5' : (D : Int) / D2 = e2 := by rw [← hQd2]; rfl
  have t6 : IntKind.i64.wrap (e1 : Int) = e1 := wrap_in (by omega) (by omega)
  have t7 : IntKind.i64.wrap (e2 : Int) = e2 := wrap_in (by omega) (by omega)
  have z1 : ¬ (D1 : Int) = 0 := by omega
  have z2 : ¬ (D2 : Int) = 0 := by omega
  have z3 : ¬ (D : Int) = 0 := by omega
  have z4 : ¬ (q : Int) = 0 := by omega
  have z5 : ¬ D1 = 0 := by omega
  have z6 : ¬ D2 = 0 := by omega
  have z7 : ¬ D = 0 := by omega
  have z8 : ¬ q = 0 := by omega
  clear hQg hQd hQm hQd1 hQd2
  go_enter Tryz.func76, Tryz.ntmps76
  go_wp2_with fail
  obtain ⟨W, hW⟩ : ∃ W, ((w.alloc (.cells #[.slice A1 os1.length c1, .int .i64 D1, .slice B1 vs1.length k1] 26)).alloc (.cells #[.slice A2 os2.length c2, .int .i64 D2, .slice B2 vs2.length k2] 26)).alloc (.cells #[.slice none 0 0, .int .i64 0, .slice none 0 0] 26) = W := ⟨_, rfl⟩
  have hbW : Below w.heap.size w W := by rw [← hW]; exact (by repeat (first | assumption | exact Below.refl _ _ | apply below_drewN | apply Below.drew | apply Below.alloc | apply Below.setCell | omega | (focus (simp; done)) | (focus (simp; omega))))
  have hsW := hide (show W.heap.size = w.heap.size + 3 by rw [← hW]; simp)
  have hszW : w.heap.size < W.heap.size := by rw [hsW.out]; omega
  have hszW1 : w.heap.size + 1 < W.heap.size := by rw [hsW.out]; omega
  have hszW2 : w.heap.size + 1 + 1 < W.heap.size := by rw [hsW.out]; omega
  have bM : Blk W w.heap.size 26 #[.slice A1 os1.length c1, .int .i64 D1, .slice B1 vs1.length k1] := by rw [← hW]; exact ((Blk.new _ _ _).alloc _).alloc _
  have bN : Blk W (w.heap.size + 1) 26 #[.slice A2 os2.length c2, .int .i64 D2, .slice B2 vs2.length k2] := by rw [← hW]; exact (Blk.new' _ _ _ _ (by simp)).alloc _
  have bR : Blk W (w.heap.size + 1 + 1) 26 #[.slice none 0 0, .int .i64 0, .slice none 0 0] := by rw [← hW]; exact Blk.new' _ _ _ _ (by simp)
  have q0 := bM.cell 0
  have q1 := bM.cell 1
  have q2 := bM.cell 2
  have p0 := bN.cell 0
  have p1 := bN.cell 1
  have p2 := bN.cell 2
  rw [hW]
  clear hW
  have hs1 := h1.below hbW
  have hg1 := g1.below hbW
  have hs2 := h2.below hbW
  have hg2 := g2.below hbW
  refine wp_region_bt (.one 0 (.one 1 (.one 3 (.one 4 (.one 6 (.one 7 (.one 8 (.one 9 (.one 10 (.one 11 (.one 14 (.one 15 (.two 2 (.two 5 (.two 12 (.one 13 (.one 16 (.one 17 (.one 18 (.one 19 .nil))))) 18 (.one 12 (.one 13 (.one 16 (.one 17 (.one 19 .nil)))))) 18 (.one 5 (.one 12 (.one 13 (.one 16 (.one 17 (.one 19 .nil))))))) 18 (.one 2 (.one 5 (.one 12 (.one 13 (.one 16 (.one 17 (.one 19 .nil)))))))))))))))))))) 19 W.heap.size W (by kernel_rfl) (by kernel_rfl) (by kernel_rfl) (fun _ _ _ _ _ h => h) (Below.refl _ _) (fun wd hBe => ?_)
  repeat (first | (apply ot_tk rfl (by rfl) (by rfl) (by rfl); (focus (intro wx hSw; have r0 := (hSw.cell (p := ⟨w.heap.size, 0, none⟩) hszW).trans q0; have r1 := (hSw.cell (p := ⟨w.heap.size, 1, none⟩) hszW).trans q1; have r2 := (hSw.cell (p := ⟨w.heap.size, 2, none⟩) hszW).trans q2; have r3 := (hSw.cell (p := ⟨w.heap.size + 1, 0, none⟩) hszW1).trans p0; have r4 := (hSw.cell (p := ⟨w.heap.size + 1, 1, none⟩) hszW1).trans p1; have r5 := (hSw.cell (p := ⟨w.heap.size + 1, 2, none⟩) hszW1).trans p2; go_simp; (try with_reducible rfl))); (try simp only [Act.put, List.setIfInBounds_toArray, List.set_cons_zero, List.set_cons_succ])) | (apply ot_skip rfl (by rfl) (by rfl) (fun _ => hBe); (try simp only [Act.put, List.setIfInBounds_toArray, List.set_cons_zero, List.set_cons_succ])))
  refine ot_two ?_ ?_
  · skip
    (refine ot_do rfl (by rfl) (by rfl) (fun K hK => ?_); go_simp; refine (l01Own_any _ _ _ _ _ _ (hs1.below (hBe.mono (Nat.le_of_lt hszW))) (by have := hBe.size; omega) (by omega)).mono ?_; rintro e wn ⟨v, rfl, hO, hb2⟩; obtain ⟨Av, cv, rfl⟩ := hO.val; (try replace bO := bO.all hb2); replace hO := hO.less (show W.heap.size ≤ _ from hBe.size); replace hBe := hBe.trans (hb2.mono hBe.size); clear hb2; refine hK.out _ _ (fun _ => hBe) ?_; (try simp only [Act.put, List.setIfInBounds_toArray, List.set_cons_zero, List.set_cons_succ]); clear hK K)
    repeat (first | (apply ot_tk rfl (by rfl) (by rfl) (by rfl); (focus (intro wx hSw; have r0 := (hSw.cell (p := ⟨w.heap.size, 0, none⟩) hszW).trans q0; have r1 := (hSw.cell (p := ⟨w.heap.size, 1, none⟩) hszW).trans q1; have r2 := (hSw.cell (p := ⟨w.heap.size, 2, none⟩) hszW).trans q2; have r3 := (hSw.cell (p := ⟨w.heap.size + 1, 0, none⟩) hszW1).trans p0; have r4 := (hSw.cell (p := ⟨w.heap.size + 1, 1, none⟩) hszW1).trans p1; have r5 := (hSw.cell (p := ⟨w.heap.size + 1, 2, none⟩) hszW1).trans p2; go_simp; (try with_reducible rfl))); (try simp only [Act.put, List.setIfInBounds_toArray, List.set_cons_zero, List.set_cons_succ])) | (apply ot_skip rfl (by rfl) (by rfl) (fun _ => hBe); (try simp only [Act.put, List.setIfInBounds_toArray, List.set_cons_zero, List.set_cons_succ])))
    refine ot_two ?_ ?_
    · skip
      (refine ot_do rfl (by rfl) (by rfl) (fun K hK => ?_); refine wp_app _ _ _ (by rfl) W.heap.size _ os1 (by rfl) hO _ A2 os2.length c2 os2 (by rfl) (hs2.below (hBe.mono (Nat.le_of_lt hszW))) (by omega) hBe.size ?_; intro vo wp hA; have y3 := hA.2.1; obtain ⟨Avo, cvo, hvv⟩ := hA.own.val; rw [List.length_append] at hvv; subst hvv; (try replace bO := bO.grown y3 (hO.blk_ne bO (by decide))); replace hBe := hBe.grown y3 hBe.size (fun k hk => (hO.lt k hk).1); replace hO : Ow wp W.heap.size (.slice Avo (os1.length + os2.length) cvo) (os1 ++ os2) := hA.own; clear hA y3; refine hK.out _ _ (fun _ => hBe) ?_; (try simp only [Act.put, List.setIfInBounds_toArray, List.set_cons_zero, List.set_cons_succ]); clear hK K)
      repeat (first | (apply ot_tk rfl (by rfl) (by rfl) (by rfl); (focus (intro wx hSw; have r0 := (hSw.cell (p := ⟨w.heap.size, 0, none⟩) hszW).trans q0; have r1 := (hSw.cell (p := ⟨w.heap.size, 1, none⟩) hszW).trans q1; have r2 := (hSw.cell (p := ⟨w.heap.size, 2, none⟩) hszW).trans q2; have r3 := (hSw.cell (p := ⟨w.heap.size + 1, 0, none⟩) hszW1).trans p0; have r4 := (hSw.cell (p := ⟨w.heap.size + 1, 1, none⟩) hszW1).trans p1; have r5 := (hSw.cell (p := ⟨w.heap.size + 1, 2, none⟩) hszW1).trans p2; go_simp; (try with_reducible rfl))); (try simp only [Act.put, List.setIfInBounds_toArray, List.set_cons_zero, List.set_cons_succ])) | (apply ot_skip rfl (by rfl) (by rfl) (fun _ => hBe); (try simp only [Act.put, List.setIfInBounds_toArray, List.set_cons_zero, List.set_cons_succ])))
      refine ot_two ?_ ?_
      · skip
        (refine ot_do rfl (by rfl) (by rfl) (fun K hK => ?_); go_simp; refine ((hCom _).mono fun _ _ h => Qt.re h).mono ?_; rintro e wq ⟨rfl, hb2⟩; (try replace bO := bO.all hb2); (try replace hO := hO.below hb2); replace hBe := hBe.trans (hb2.mono hBe.size); clear hb2; refine hK.out _ _ (fun _ => hBe) ?_; (try simp only [Act.put, List.setIfInBounds_toArray, List.set_cons_zero, List.set_cons_succ]); clear hK K)
        repeat (first | (apply ot_tk rfl (by rfl) (by rfl) (by rfl); (focus (intro wx hSw; have r0 := (hSw.cell (p := ⟨w.heap.size, 0, none⟩) hszW).trans q0; have r1 := (hSw.cell (p := ⟨w.heap.size, 1, none⟩) hszW).trans q1; have r2 := (hSw.cell (p := ⟨w.heap.size, 2, none⟩) hszW).trans q2; have r3 := (hSw.cell (p := ⟨w.heap.size + 1, 0, none⟩) hszW1).trans p0; have r4 := (hSw.cell (p := ⟨w.heap.size + 1, 1, none⟩) hszW1).trans p1; have r5 := (hSw.cell (p := ⟨w.heap.size + 1, 2, none⟩) hszW1).trans p2; go_simp; (try with_reducible rfl))); (try simp only [Act.put, List.setIfInBounds_toArray, List.set_cons_zero, List.set_cons_succ])) | (apply ot_skip rfl (by rfl) (by rfl) (fun _ => hBe); (try simp only [Act.put, List.setIfInBounds_toArray, List.set_cons_zero, List.set_cons_succ])))
        (refine ot_do rfl (by rfl) (by rfl) (fun K hK => ?_); go_simp; obtain ⟨wa, g, hg, hwa, hBa, hsub, bO, hgB⟩ := be_alloc hBe 26 #[.slice none 0 0, .int .i64 0, .slice none 0 0]; rw [hwa, hg]; clear hwa hg; (try replace hO := hO.below hsub); clear hBe hsub; have hBe := hBa; clear hBa; refine hK.out _ _ (fun _ => hBe) ?_; (try simp only [Act.put, List.setIfInBounds_toArray, List.set_cons_zero, List.set_cons_succ]); clear hK K)
        repeat (first | (apply ot_tk rfl (by rfl) (by rfl) (by rfl); (focus (intro wx hSw; have r0 := (hSw.cell (p := ⟨w.heap.size, 0, none⟩) hszW).trans q0; have r1 := (hSw.cell (p := ⟨w.heap.size, 1, none⟩) hszW).trans q1; have r2 := (hSw.cell (p := ⟨w.heap.size, 2, none⟩) hszW).trans q2; have r3 := (hSw.cell (p := ⟨w.heap.size + 1, 0, none⟩) hszW1).trans p0; have r4 := (hSw.cell (p := ⟨w.heap.size + 1, 1, none⟩) hszW1).trans p1; have r5 := (hSw.cell (p := ⟨w.heap.size + 1, 2, none⟩) hszW1).trans p2; go_simp; (try with_reducible rfl))); (try simp only [Act.put, List.setIfInBounds_toArray, List.set_cons_zero, List.set_cons_succ])) | (apply ot_skip rfl (by rfl) (by rfl) (fun _ => hBe); (try simp only [Act.put, List.setIfInBounds_toArray, List.set_cons_zero, List.set_cons_succ])))
        have r0 := bO.cell 0
        have r1 := bO.cell 1
        have r2 := bO.cell 2
        have f0 := bO.frozen 0
        have f1 := bO.frozen 1
        have f2 := bO.frozen 2
        have hI : MetIn W W.heap.size (w.heap.size + 1 + 1) g (.slice Avo (os1.length + os2.length) cvo) (os1 ++ os2) D (.slice none 0 0) [] (put3 wa g (.slice Avo (os1.length + os2.length) cvo) (.int .i64 D) (.slice none 0 0)) := ⟨put3_far (bR.all hBe) (by omega), put3_own bO (by decide) hO, put3_blk bO, Ow.nil _ _, fun b hb => by simp [Value.ownBlock], put3_below hBe hgB⟩
        refine ot_do rfl (by rfl) (by rfl) (fun K hK => ?_)
        go_simp
        refine hK.out _ _ (fun h => absurd h (by omega)) ?_
        (try simp only [Act.put, List.setIfInBounds_toArray, List.set_cons_zero, List.set_cons_succ])
        clear hK K
        refine ot_nil ?_
        clear r0 r1 r2 f0 f1 f2 bO hO
        have hRs := hide (show w.heap.size + 1 + 1 < g by omega)
        have hS0 := hide (show sumL D e1 e2 (vs1.take 0) vs2 = [] from rfl)
        have hR0 := hide (fun v => show sumR D e1 e2 v (vs2.take 0) = [] from rfl)
        obtain ⟨vo, hvo⟩ : ∃ vo, Value.slice Avo (os1.length + os2.length) cvo = vo := ⟨_, rfl⟩
        have hVO := hide hvo
        obtain ⟨W3, hW3⟩ : ∃ W3, put3 wa g (.slice Avo (os1.length + os2.length) cvo) (.int .i64 D) (.slice none 0 0) = W3 := ⟨_, rfl⟩
        unfold put3 at hW3
        unfold put3 at hI
        rw [hW3, hvo] at hI
        rw [hW3]
        clear hW3 hvo
        go_wp2_with fail
        go_loopw [6] (fun x wr => ∃ (k : Nat) (vv : Value), k ≤ vs1.length ∧ x = .int .i64 k ∧ MetIn W W.heap.size (w.heap.size + 1 + 1) g vo (os1 ++ os2) D vv (sumL D e1 e2 (vs1.take k) vs2) wr) (fun x _ => vs1.length - (intOf x).toNat)
        case atStart => exact ⟨0, _, by omega, rfl, by rw [hS0.out]; exact hI⟩
        case round =>
          clear hI hBe
          obtain ⟨k, vv, hk, rfl, hI⟩ := hrel
          have c2 := (hI.below.cell (p := ⟨w.heap.size, 2, none⟩) hszW).trans q2
          by_cases hlt : k < vs1.length
          · obtain ⟨b, off, rfl, hb, hc⟩ := hg1.at_ (by omega)
            have cv := hc k hlt
            clear hc
            have hv := hok1.rng _ (gi_mem hlt)
            have hsn := hide (sumL_snoc D e1 e2 vs2 hlt)
            obtain ⟨v, ev⟩ : ∃ v, gi vs1 k = v := ⟨_, rfl⟩
            rw [ev] at cv hv hsn
            clear ev
            go_wp2_with fail
            clear c2
            go_loopw [7] (fun y wr => ∃ (j : Nat) (vv : Value), j ≤ vs2.length ∧ y = .int .i64 j ∧ MetIn W W.heap.size (w.heap.size + 1 + 1) g vo (os1 ++ os2) D vv (sumL D e1 e2 (vs1.take k) vs2 ++ sumR D e1 e2 v (vs2.take j)) wr) (fun y _ => vs2.length - (intOf y).toNat)
            case atStart => exact ⟨0, vv, by omega, rfl, by rw [hR0.out, List.append_nil]; exact hI⟩
            case round =>
              clear hI
              obtain ⟨j, vv, hj, rfl, hI⟩ := hrel
              have c2 := (hI.below.cell (p := ⟨w.heap.size + 1, 2, none⟩) hszW1).trans p2
              obtain ⟨xs, hxs⟩ : ∃ xs, sumL D e1 e2 (vs1.take k) vs2 ++ sumR D e1 e2 v (vs2.take j) = xs := ⟨_, rfl⟩
              have hlen : xs.length ≤ 1000 := by
                rw [← hxs, List.length_append, sumL_len, sumR_len]
                have : (vs1.take k).length * vs2.length ≤ 16 * 16 := Nat.mul_le_mul (by rw [List.length_take]; omega) hv2
                have : (vs2.take j).length ≤ 16 := by rw [List.length_take]; omega
                omega
              rw [hxs] at hI
              have hX := hide hxs
              clear hxs
              have hsz := hI.out.lt
              by_cases hlj : j < vs2.length
              · obtain ⟨b', off', rfl, hb', hc'⟩ := hg2.at_ (by omega)
                have cu := hc' j hlj
                clear hc'
                have hu := hok2.rng _ (gi_mem hlj)
                have hsm := hide (sumR_snoc D e1 e2 v hlj)
                obtain ⟨u, eu⟩ : ∃ u, gi vs2 j = u := ⟨_, rfl⟩
                rw [eu] at cu hu hsm
                clear eu
                have b1 : 0 ≤ v * (e1 : Int) := Int.mul_nonneg hv.1 (by omega)
                have b2 : v * (e1 : Int) ≤ 55440 * 55440 := Int.mul_le_mul (by omega) (by omega) (by omega) (by omega)
                have b3 : 0 ≤ u * (e2 : Int) := Int.mul_nonneg hu.1 (by omega)
                have b4 : u * (e2 : Int) ≤ 55440 * 55440 := Int.mul_le_mul (by omega) (by omega) (by omega) (by omega)
                obtain ⟨P1, hP1⟩ : ∃ P1, v * (e1 : Int) = P1 := ⟨_, rfl⟩
                obtain ⟨P2, hP2⟩ : ∃ P2, u * (e2 : Int) = P2 := ⟨_, rfl⟩
                rw [hP1] at b1 b2 hsm
                rw [hP2] at b3 b4 hsm
                have u1 : IntKind.i64.wrap (v * (e1 : Int)) = P1 := by rw [hP1]; exact wrap_in (by omega) (by omega)
                have u2 : IntKind.i64.wrap (u * (e2 : Int)) = P2 := by rw [hP2]; exact wrap_in (by omega) (by omega)
                clear hP1 hP2
                have u3 : IntKind.i64.wrap (P1 + P2) = P1 + P2 := wrap_in (by omega) (by omega)
                have u4 : (P1 + P2).tmod (D : Int) = (P1 + P2) % (D : Int) := Int.tmod_eq_emod_of_nonneg (by omega)
                obtain ⟨Y, hY⟩ : ∃ Y, (P1 + P2) % (D : Int) = Y := ⟨_, rfl⟩
                rw [hY] at u4 hsm
                have HY := hide hY
                clear hY
                have i0 : 0 ≤ (k : Int) := by omega
                have i1 : (k : Int) < (vs1.length : Int) := by omega
                have i2 : 0 ≤ (j : Int) := by omega
                have i3 : (j : Int) < (vs2.length : Int) := by omega
                have HR := hide (show ∀ wx, Below W.heap.size W wx → (wx.cell? ⟨w.heap.size, 0, none⟩ = some (.slice A1 os1.length c1) ∧ wx.cell? ⟨w.heap.size, 1, none⟩ = some (.int .i64 D1) ∧ wx.cell? ⟨w.heap.size, 2, none⟩ = some (.slice (some ⟨b, off, none⟩) vs1.length k1) ∧ wx.cell? ⟨b, off + k, none⟩ = some (.int .i64 v)) ∧ wx.cell? ⟨w.heap.size + 1, 1, none⟩ = some (.int .i64 D2) ∧ wx.cell? ⟨w.heap.size + 1, 2, none⟩ = some (.slice (some ⟨b', off', none⟩) vs2.length k2) ∧ wx.cell? ⟨b', off' + j, none⟩ = some (.int .i64 u) from fun wx hwx => ⟨⟨(hwx.cell (p := ⟨w.heap.size, 0, none⟩) hszW).trans q0, (hwx.cell (p := ⟨w.heap.size, 1, none⟩) hszW).trans q1, (hwx.cell (p := ⟨w.heap.size, 2, none⟩) hszW).trans q2, (hwx.cell (p := ⟨b, off + k, none⟩) (by show b < W.heap.size; omega)).trans cv⟩, (hwx.cell (p := ⟨w.heap.size + 1, 1, none⟩) hszW1).trans p1, (hwx.cell (p := ⟨w.heap.size + 1, 2, none⟩) hszW1).trans p2, (hwx.cell (p := ⟨b', off' + j, none⟩) (by show b' < W.heap.size; omega)).trans cu⟩)
                go_wp2_with fail
                clear c2
                refine wp_region_ord [0, 1, 2, 3, 4, 5, 6, 7, 8, 9, 10, 11, 12, 13, 14, 15, 16, 17, 18, 19, 20, 21, 22, 23, 24, 25, 26, 27, 28, 29, 30, 31] 30 (fun w' => (w'.cell? ⟨g, 0, none⟩ = some vo ∧ w'.cell? ⟨g, 1, none⟩ = some (.int .i64 D) ∧ w'.cell? ⟨g, 2, none⟩ = some vv) ∧ (w'.cell? ⟨w.heap.size, 0, none⟩ = some (.slice A1 os1.length c1) ∧ w'.cell? ⟨w.heap.size, 1, none⟩ = some (.int .i64 D1) ∧ w'.cell? ⟨w.heap.size, 2, none⟩ = some (.slice (some ⟨b, off, none⟩) vs1.length k1) ∧ w'.cell? ⟨b, off + k, none⟩ = some (.int .i64 v)) ∧ w'.cell? ⟨w.heap.size + 1, 1, none⟩ = some (.int .i64 D2) ∧ w'.cell? ⟨w.heap.size + 1, 2, none⟩ = some (.slice (some ⟨b', off', none⟩) vs2.length k2) ∧ w'.cell? ⟨b', off' + j, none⟩ = some (.int .i64 u)) (by kernel_rfl) (by kernel_rfl) (by kernel_rfl) (fun _ _ _ _ _ h => h) ⟨hI.reads, HR.out _ hI.below.drew⟩ ?_
                repeat (apply ord_take rfl (by rfl) (by rfl); (focus (intro w hSw; (try dsimp only at hSw); go_simp; (try with_reducible rfl))); (try simp only [Act.put, List.setIfInBounds_toArray, List.set_cons_zero, List.set_cons_succ]))
                have hwz := hI.below.size
                have hK1 := hI.drew
                refine ord_do rfl (by rfl) (by rfl) (fun K hK => ?_)
                go_simp
                have hJ := hK1.alloc (by simp; omega) (.cells #[.int .i64 Y] 2)
                refine hK.out _ _ (fun _ => ⟨hJ.reads, HR.out _ hJ.below⟩) ?_
                (try simp only [Act.put, List.setIfInBounds_toArray, List.set_cons_zero, List.set_cons_succ])
                clear hK K
                refine ord_do rfl (by rfl) (by rfl) (fun K hK => ?_)
                refine wp_push _ _ _ (by rfl) W.heap.size vv xs (by rfl) hJ.vals _ wr.heap.size _ (by rfl) (Blk.new _ _ _) (by omega) (by simp; omega) (by simp) ?_
                intro g2 cap2 w2 hP
                have o2 := hJ.pushed hP
                have hK2 := hJ.below.trans (hP.below hJ.vals (by simp; omega))
                refine hK.out _ _ (fun _ => ⟨⟨o2.cell 0, o2.cell 1, o2.cell 2⟩, HR.out _ hK2⟩) ?_
                (try simp only [Act.put, List.setIfInBounds_toArray, List.set_cons_zero, List.set_cons_succ])
                clear hK K
                refine ord_do rfl (by rfl) (by rfl) (fun K hK => ?_)
                go_simp
                refine hK.out _ _ (fun h => absurd h (by omega)) ?_
                (try simp only [Act.put, List.setIfInBounds_toArray, List.set_cons_zero, List.set_cons_succ])
                clear hK K
                have c2' := o2.cell 2
                have f2' := o2.frozen 2
                refine ord_do rfl (by rfl) (by rfl) (fun K hK => ?_)
                go_simp
                refine hK.out _ _ (fun h => absurd h (by omega)) ?_
                (try simp only [Act.put, List.setIfInBounds_toArray, List.set_cons_zero, List.set_cons_succ])
                clear hK K
                refine ord_nil ?_
                clear u1 u2 u3 u4
                go_wp2
                go_roundw
                case rel => exact ⟨j + 1, _, by omega, by go_num, by rw [hsm.out, ← List.append_assoc, hX.out]; exact hJ.step hP (by simp; omega) (by have := hRs.out; omega) (by omega) (hI.ordsNe (by omega))⟩
                case measure => simp [intOf]; omega
              · obtain rfl : j = vs2.length := by omega
                have hE := hide (show sumL D e1 e2 (vs1.take (k + 1)) vs2 = xs by rw [hsn.out, ← hX.out, List.take_length])
                go_wp2_with fail
                go_roundw
                case rel => exact ⟨k + 1, vv, by omega, by go_num, by rw [hE.out]; exact hI⟩
                case measure => simp [intOf]; omega
          · obtain ⟨xs, hxs⟩ : ∃ xs, sumL D e1 e2 (vs1.take k) vs2 = xs := ⟨_, rfl⟩
            rw [hxs] at hI
            have hTk := hide (show sumL D e1 e2 vs1 vs2 = xs by rw [← hxs, show k = vs1.length by omega, List.take_length])
            clear hxs
            obtain ⟨A5, c5, rfl⟩ := hI.vals.val
            obtain ⟨o0, o1, o2⟩ := hI.reads
            have hres := hI.res
            rw [← hVO.out] at hI o0
            have r0 := hres.cell 0
            have r1 := hres.cell 1
            have r2 := hres.cell 2
            have f0 := hres.frozen 0
            have f1 := hres.frozen 1
            have f2 := hres.frozen 2
            go_wp2
            have hb3 := put3_blk (x := .slice Avo (os1.length + os2.length) cvo) (y := .int .i64 D) (z := .slice A5 xs.length c5) hres
            have q0 := hb3.cell 0
            have q1 := hb3.cell 1
            have q2 := hb3.cell 2
            unfold put3 at q0 q1 q2
            refine bodyPost_ret (v := .agg #[.slice Avo (os1.length + os2.length) cvo, .int .i64 D, .slice A5 xs.length c5]) (by simp [results, Tryz.results76, go_sem, q0, q1, q2]) rfl ?_
            rw [hTk.out]
            exact (hI.weak hbW (Nat.le_of_lt hszW)).done1 (by omega)
      · skip
        (refine ot_do rfl (by rfl) (by rfl) (fun K hK => ?_); go_simp; obtain ⟨wa, g, hg, hwa, hBa, hsub, bO, hgB⟩ := be_alloc hBe 26 #[.slice none 0 0, .int .i64 0, .slice none 0 0]; rw [hwa, hg]; clear hwa hg; (try replace hO := hO.below hsub); clear hBe hsub; have hBe := hBa; clear hBa; refine hK.out _ _ (fun _ => hBe) ?_; (try simp only [Act.put, List.setIfInBounds_toArray, List.set_cons_zero, List.set_cons_succ]); clear hK K)
        repeat (first | (apply ot_tk rfl (by rfl) (by rfl) (by rfl); (focus (intro wx hSw; have r0 := (hSw.cell (p := ⟨w.heap.size, 0, none⟩) hszW).trans q0; have r1 := (hSw.cell (p := ⟨w.heap.size, 1, none⟩) hszW).trans q1; have r2 := (hSw.cell (p := ⟨w.heap.size, 2, none⟩) hszW).trans q2; have r3 := (hSw.cell (p := ⟨w.heap.size + 1, 0, none⟩) hszW1).trans p0; have r4 := (hSw.cell (p := ⟨w.heap.size + 1, 1, none⟩) hszW1).trans p1; have r5 := (hSw.cell (p := ⟨w.heap.size + 1, 2, none⟩) hszW1).trans p2; go_simp; (try with_reducible rfl))); (try simp only [Act.put, List.setIfInBounds_toArray, List.set_cons_zero, List.set_cons_succ])) | (apply ot_skip rfl (by rfl) (by rfl) (fun _ => hBe); (try simp only [Act.put, List.setIfInBounds_toArray, List.set_cons_zero, List.set_cons_succ])))
        (refine ot_do rfl (by rfl) (by rfl) (fun K hK => ?_); go_simp; refine ((hCom _).mono fun _ _ h => Qt.re h).mono ?_; rintro e wq ⟨rfl, hb2⟩; (try replace bO := bO.all hb2); (try replace hO := hO.below hb2); replace hBe := hBe.trans (hb2.mono hBe.size); clear hb2; refine hK.out _ _ (fun _ => hBe) ?_; (try simp only [Act.put, List.setIfInBounds_toArray, List.set_cons_zero, List.set_cons_succ]); clear hK K)
        repeat (first | (apply ot_tk rfl (by rfl) (by rfl) (by rfl); (focus (intro wx hSw; have r0 := (hSw.cell (p := ⟨w.heap.size, 0, none⟩) hszW).trans q0; have r1 := (hSw.cell (p := ⟨w.heap.size, 1, none⟩) hszW).trans q1; have r2 := (hSw.cell (p := ⟨w.heap.size, 2, none⟩) hszW).trans q2; have r3 := (hSw.cell (p := ⟨w.heap.size + 1, 0, none⟩) hszW1).trans p0; have r4 := (hSw.cell (p := ⟨w.heap.size + 1, 1, none⟩) hszW1).trans p1; have r5 := (hSw.cell (p := ⟨w.heap.size + 1, 2, none⟩) hszW1).trans p2; go_simp; (try with_reducible rfl))); (try simp only [Act.put, List.setIfInBounds_toArray, List.set_cons_zero, List.set_cons_succ])) | (apply ot_skip rfl (by rfl) (by rfl) (fun _ => hBe); (try simp only [Act.put, List.setIfInBounds_toArray, List.set_cons_zero, List.set_cons_succ])))
        have r0 := bO.cell 0
        have r1 := bO.cell 1
        have r2 := bO.cell 2
        have f0 := bO.frozen 0
        have f1 := bO.frozen 1
        have f2 := bO.frozen 2
        have hI : MetIn W W.heap.size (w.heap.size + 1 + 1) g (.slice Avo (os1.length + os2.length) cvo) (os1 ++ os2) D (.slice none 0 0) [] (put3 wq g (.slice Avo (os1.length + os2.length) cvo) (.int .i64 D) (.slice none 0 0)) := ⟨put3_far (bR.all hBe) (by omega), put3_own bO (by decide) hO, put3_blk bO, Ow.nil _ _, fun b hb => by simp [Value.ownBlock], put3_below hBe hgB⟩
        refine ot_do rfl (by rfl) (by rfl) (fun K hK => ?_)
        go_simp
        refine hK.out _ _ (fun h => absurd h (by omega)) ?_
        (try simp only [Act.put, List.setIfInBounds_toArray, List.set_cons_zero, List.set_cons_succ])
        clear hK K
        refine ot_nil ?_
        clear r0 r1 r2 f0 f1 f2 bO hO
        have hRs := hide (show w.heap.size + 1 + 1 < g by omega)
        have hS0 := hide (show sumL D e1 e2 (vs1.take 0) vs2 = [] from rfl)
        have hR0 := hide (fun v => show sumR D e1 e2 v (vs2.take 0) = [] from rfl)
        obtain ⟨vo, hvo⟩ : ∃ vo, Value.slice Avo (os1.length + os2.length) cvo = vo := ⟨_, rfl⟩
        have hVO := hide hvo
        obtain ⟨W3, hW3⟩ : ∃ W3, put3 wq g (.slice Avo (os1.length + os2.length) cvo) (.int .i64 D) (.slice none 0 0) = W3 := ⟨_, rfl⟩
        unfold put3 at hW3
        unfold put3 at hI
        rw [hW3, hvo] at hI
        rw [hW3]
        clear hW3 hvo
        go_wp2_with fail
        go_loopw [6] (fun x wr => ∃ (k : Nat) (vv : Value), k ≤ vs1.length ∧ x = .int .i64 k ∧ MetIn W W.heap.size (w.heap.size + 1 + 1) g vo (os1 ++ os2) D vv (sumL D e1 e2 (vs1.take k) vs2) wr) (fun x _ => vs1.length - (intOf x).toNat)
        case atStart => exact ⟨0, _, by omega, rfl, by rw [hS0.out]; exact hI⟩
        case round =>
          clear hI hBe
          obtain ⟨k, vv, hk, rfl, hI⟩ := hrel
          have c2 := (hI.below.cell (p := ⟨w.heap.size, 2, none⟩) hszW).trans q2
          by_cases hlt : k < vs1.length
          · obtain ⟨b, off, rfl, hb, hc⟩ := hg1.at_ (by omega)
            have cv := hc k hlt
            clear hc
            have hv := hok1.rng _ (gi_mem hlt)
            have hsn := hide (sumL_snoc D e1 e2 vs2 hlt)
            obtain ⟨v, ev⟩ : ∃ v, gi vs1 k = v := ⟨_, rfl⟩
            rw [ev] at cv hv hsn
            clear ev
            go_wp2_with fail
            clear c2
            go_loopw [7] (fun y wr => ∃ (j : Nat) (vv : Value), j ≤ vs2.length ∧ y = .int .i64 j ∧ MetIn W W.heap.size (w.heap.size + 1 + 1) g vo (os1 ++ os2) D vv (sumL D e1 e2 (vs1.take k) vs2 ++ sumR D e1 e2 v (vs2.take j)) wr) (fun y _ => vs2.length - (intOf y).toNat)
            case atStart => exact ⟨0, vv, by omega, rfl, by rw [hR0.out, List.append_nil]; exact hI⟩
            case round =>
              clear hI
              obtain ⟨j, vv, hj, rfl, hI⟩ := hrel
              have c2 := (hI.below.cell (p := ⟨w.heap.size + 1, 2, none⟩) hszW1).trans p2
              obtain ⟨xs, hxs⟩ : ∃ xs, sumL D e1 e2 (vs1.take k) vs2 ++ sumR D e1 e2 v (vs2.take j) = xs := ⟨_, rfl⟩
              have hlen : xs.length ≤ 1000 := by
                rw [← hxs, List.length_append, sumL_len, sumR_len]
                have : (vs1.take k).length * vs2.length ≤ 16 * 16 := Nat.mul_le_mul (by rw [List.length_take]; omega) hv2
                have : (vs2.take j).length ≤ 16 := by rw [List.length_take]; omega
                omega
              rw [hxs] at hI
              have hX := hide hxs
              clear hxs
              have hsz := hI.out.lt
              by_cases hlj : j < vs2.length
              · obtain ⟨b', off', rfl, hb', hc'⟩ := hg2.at_ (by omega)
                have cu := hc' j hlj
                clear hc'
                have hu := hok2.rng _ (gi_mem hlj)
                have hsm := hide (sumR_snoc D e1 e2 v hlj)
                obtain ⟨u, eu⟩ : ∃ u, gi vs2 j = u := ⟨_, rfl⟩
                rw [eu] at cu hu hsm
                clear eu
                have b1 : 0 ≤ v * (e1 : Int) := Int.mul_nonneg hv.1 (by omega)
                have b2 : v * (e1 : Int) ≤ 55440 * 55440 := Int.mul_le_mul (by omega) (by omega) (by omega) (by omega)
                have b3 : 0 ≤ u * (e2 : Int) := Int.mul_nonneg hu.1 (by omega)
                have b4 : u * (e2 : Int) ≤ 55440 * 55440 := Int.mul_le_mul (by omega) (by omega) (by omega) (by omega)
                obtain ⟨P1, hP1⟩ : ∃ P1, v * (e1 : Int) = P1 := ⟨_, rfl⟩
                obtain ⟨P2, hP2⟩ : ∃ P2, u * (e2 : Int) = P2 := ⟨_, rfl⟩
                rw [hP1] at b1 b2 hsm
                rw [hP2] at b3 b4 hsm
                have u1 : IntKind.i64.wrap (v * (e1 : Int)) = P1 := by rw [hP1]; exact wrap_in (by omega) (by omega)
                have u2 : IntKind.i64.wrap (u * (e2 : Int)) = P2 := by rw [hP2]; exact wrap_in (by omega) (by omega)
                clear hP1 hP2
                have u3 : IntKind.i64.wrap (P1 + P2) = P1 + P2 := wrap_in (by omega) (by omega)
                have u4 : (P1 + P2).tmod (D : Int) = (P1 + P2) % (D : Int) := Int.tmod_eq_emod_of_nonneg (by omega)
                obtain ⟨Y, hY⟩ : ∃ Y, (P1 + P2) % (D : Int) = Y := ⟨_, rfl⟩
                rw [hY] at u4 hsm
                have HY := hide hY
                clear hY
                have i0 : 0 ≤ (k : Int) := by omega
                have i1 : (k : Int) < (vs1.length : Int) := by omega
                have i2 : 0 ≤ (j : Int) := by omega
                have i3 : (j : Int) < (vs2.length : Int) := by omega
                have HR := hide (show ∀ wx, Below W.heap.size W wx → (wx.cell? ⟨w.heap.size, 0, none⟩ = some (.slice A1 os1.length c1) ∧ wx.cell? ⟨w.heap.size, 1, none⟩ = some (.int .i64 D1) ∧ wx.cell? ⟨w.heap.size, 2, none⟩ = some (.slice (some ⟨b, off, none⟩) vs1.length k1) ∧ wx.cell? ⟨b, off + k, none⟩ = some (.int .i64 v)) ∧ wx.cell? ⟨w.heap.size + 1, 1, none⟩ = some (.int .i64 D2) ∧ wx.cell? ⟨w.heap.size + 1, 2, none⟩ = some (.slice (some ⟨b', off', none⟩) vs2.length k2) ∧ wx.cell? ⟨b', off' + j, none⟩ = some (.int .i64 u) from fun wx hwx => ⟨⟨(hwx.cell (p := ⟨w.heap.size, 0, none⟩) hszW).trans q0, (hwx.cell (p := ⟨w.heap.size, 1, none⟩) hszW).trans q1, (hwx.cell (p := ⟨w.heap.size, 2, none⟩) hszW).trans q2, (hwx.cell (p := ⟨b, off + k, none⟩) (by show b < W.heap.size; omega)).trans cv⟩, (hwx.cell (p := ⟨w.heap.size + 1, 1, none⟩) hszW1).trans p1, (hwx.cell (p := ⟨w.heap.size + 1, 2, none⟩) hszW1).trans p2, (hwx.cell (p := ⟨b', off' + j, none⟩) (by show b' < W.heap.size; omega)).trans cu⟩)
                go_wp2_with fail
                clear c2
                refine wp_region_ord [0, 1, 2, 3, 4, 5, 6, 7, 8, 9, 10, 11, 12, 13, 14, 15, 16, 17, 18, 19, 20, 21, 22, 23, 24, 25, 26, 27, 28, 29, 30, 31] 30 (fun w' => (w'.cell? ⟨g, 0, none⟩ = some vo ∧ w'.cell? ⟨g, 1, none⟩ = some (.int .i64 D) ∧ w'.cell? ⟨g, 2, none⟩ = some vv) ∧ (w'.cell? ⟨w.heap.size, 0, none⟩ = some (.slice A1 os1.length c1) ∧ w'.cell? ⟨w.heap.size, 1, none⟩ = some (.int .i64 D1) ∧ w'.cell? ⟨w.heap.size, 2, none⟩ = some (.slice (some ⟨b, off, none⟩) vs1.length k1) ∧ w'.cell? ⟨b, off + k, none⟩ = some (.int .i64 v)) ∧ w'.cell? ⟨w.heap.size + 1, 1, none⟩ = some (.int .i64 D2) ∧ w'.cell? ⟨w.heap.size + 1, 2, none⟩ = some (.slice (some ⟨b', off', none⟩) vs2.length k2) ∧ w'.cell? ⟨b', off' + j, none⟩ = some (.int .i64 u)) (by kernel_rfl) (by kernel_rfl) (by kernel_rfl) (fun _ _ _ _ _ h => h) ⟨hI.reads, HR.out _ hI.below.drew⟩ ?_
                repeat (apply ord_take rfl (by rfl) (by rfl); (focus (intro w hSw; (try dsimp only at hSw); go_simp; (try with_reducible rfl))); (try simp only [Act.put, List.setIfInBounds_toArray, List.set_cons_zero, List.set_cons_succ]))
                have hwz := hI.below.size
                have hK1 := hI.drew
                refine ord_do rfl (by rfl) (by rfl) (fun K hK => ?_)
                go_simp
                have hJ := hK1.alloc (by simp; omega) (.cells #[.int .i64 Y] 2)
                refine hK.out _ _ (fun _ => ⟨hJ.reads, HR.out _ hJ.below⟩) ?_
                (try simp only [Act.put, List.setIfInBounds_toArray, List.set_cons_zero, List.set_cons_succ])
                clear hK K
                refine ord_do rfl (by rfl) (by rfl) (fun K hK => ?_)
                refine wp_push _ _ _ (by rfl) W.heap.size vv xs (by rfl) hJ.vals _ wr.heap.size _ (by rfl) (Blk.new _ _ _) (by omega) (by simp; omega) (by simp) ?_
                intro g2 cap2 w2 hP
                have o2 := hJ.pushed hP
                have hK2 := hJ.below.trans (hP.below hJ.vals (by simp; omega))
                refine hK.out _ _ (fun _ => ⟨⟨o2.cell 0, o2.cell 1, o2.cell 2⟩, HR.out _ hK2⟩) ?_
                (try simp only [Act.put, List.setIfInBounds_toArray, List.set_cons_zero, List.set_cons_succ])
                clear hK K
                refine ord_do rfl (by rfl) (by rfl) (fun K hK => ?_)
                go_simp
                refine hK.out _ _ (fun h => absurd h (by omega)) ?_
                (try simp only [Act.put, List.setIfInBounds_toArray, List.set_cons_zero, List.set_cons_succ])
                clear hK K
                have c2' := o2.cell 2
                have f2' := o2.frozen 2
                refine ord_do rfl (by rfl) (by rfl) (fun K hK => ?_)
                go_simp
                refine hK.out _ _ (fun h => absurd h (by omega)) ?_
                (try simp only [Act.put, List.setIfInBounds_toArray, List.set_cons_zero, List.set_cons_succ])
                clear hK K
                refine ord_nil ?_
                clear u1 u2 u3 u4
                go_wp2
                go_roundw
                case rel => exact ⟨j + 1, _, by omega, by go_num, by rw [hsm.out, ← List.append_assoc, hX.out]; exact hJ.step hP (by simp; omega) (by have := hRs.out; omega) (by omega) (hI.ordsNe (by omega))⟩
                case measure => simp [intOf]; omega
              · obtain rfl : j = vs2.length := by omega
                have hE := hide (show sumL D e1 e2 (vs1.take (k + 1)) vs2 = xs by rw [hsn.out, ← hX.out, List.take_length])
                go_wp2_with fail
                go_roundw
                case rel => exact ⟨k + 1, vv, by omega, by go_num, by rw [hE.out]; exact hI⟩
                case measure => simp [intOf]; omega
          · obtain ⟨xs, hxs⟩ : ∃ xs, sumL D e1 e2 (vs1.take k) vs2 = xs := ⟨_, rfl⟩
            rw [hxs] at hI
            have hTk := hide (show sumL D e1 e2 vs1 vs2 = xs by rw [← hxs, show k = vs1.length by omega, List.take_length])
            clear hxs
            obtain ⟨A5, c5, rfl⟩ := hI.vals.val
            obtain ⟨o0, o1, o2⟩ := hI.reads
            have hres := hI.res
            rw [← hVO.out] at hI o0
            have r0 := hres.cell 0
            have r1 := hres.cell 1
            have r2 := hres.cell 2
            have f0 := hres.frozen 0
            have f1 := hres.frozen 1
            have f2 := hres.frozen 2
            go_wp2
            have hb3 := put3_blk (x := .slice Avo (os1.length + os2.length) cvo) (y := .int .i64 D) (z := .slice A5 xs.length c5) hres
            have q0 := hb3.cell 0
            have q1 := hb3.cell 1
            have q2 := hb3.cell 2
            unfold put3 at q0 q1 q2
            refine bodyPost_ret (v := .agg #[.slice Avo (os1.length + os2.length) cvo, .int .i64 D, .slice A5 xs.length c5]) (by simp [results, Tryz.results76, go_sem, q0, q1, q2]) rfl ?_
            rw [hTk.out]
            exact (hI.weak hbW (Nat.le_of_lt hszW)).done1 (by omega)
    · skip
      (refine ot_do rfl (by rfl) (by rfl) (fun K hK => ?_); go_simp; obtain ⟨wa, g, hg, hwa, hBa, hsub, bO, hgB⟩ := be_alloc hBe 26 #[.slice none 0 0, .int .i64 0, .slice none 0 0]; rw [hwa, hg]; clear hwa hg; (try replace hO := hO.below hsub); clear hBe hsub; have hBe := hBa; clear hBa; refine hK.out _ _ (fun _ => hBe) ?_; (try simp only [Act.put, List.setIfInBounds_toArray, List.set_cons_zero, List.set_cons_succ]); clear hK K)
      repeat (first | (apply ot_tk rfl (by rfl) (by rfl) (by rfl); (focus (intro wx hSw; have r0 := (hSw.cell (p := ⟨w.heap.size, 0, none⟩) hszW).trans q0; have r1 := (hSw.cell (p := ⟨w.heap.size, 1, none⟩) hszW).trans q1; have r2 := (hSw.cell (p := ⟨w.heap.size, 2, none⟩) hszW).trans q2; have r3 := (hSw.cell (p := ⟨w.heap.size + 1, 0, none⟩) hszW1).trans p0; have r4 := (hSw.cell (p := ⟨w.heap.size + 1, 1, none⟩) hszW1).trans p1; have r5 := (hSw.cell (p := ⟨w.heap.size + 1, 2, none⟩) hszW1).trans p2; go_simp; (try with_reducible rfl))); (try simp only [Act.put, List.setIfInBounds_toArray, List.set_cons_zero, List.set_cons_succ])) | (apply ot_skip rfl (by rfl) (by rfl) (fun _ => hBe); (try simp only [Act.put, List.setIfInBounds_toArray, List.set_cons_zero, List.set_cons_succ])))
      (refine ot_do rfl (by rfl) (by rfl) (fun K hK => ?_); refine wp_app _ _ _ (by rfl) W.heap.size _ os1 (by rfl) hO _ A2 os2.length c2 os2 (by rfl) (hs2.below (hBe.mono (Nat.le_of_lt hszW))) (by omega) hBe.size ?_; intro vo wp hA; have y3 := hA.2.1; obtain ⟨Avo, cvo, hvv⟩ := hA.own.val; rw [List.length_append] at hvv; subst hvv; (try replace bO := bO.grown y3 (hO.blk_ne bO (by decide))); replace hBe := hBe.grown y3 hBe.size (fun k hk => (hO.lt k hk).1); replace hO : Ow wp W.heap.size (.slice Avo (os1.length + os2.length) cvo) (os1 ++ os2) := hA.own; clear hA y3; refine hK.out _ _ (fun _ => hBe) ?_; (try simp only [Act.put, List.setIfInBounds_toArray, List.set_cons_zero, List.set_cons_succ]); clear hK K)
      repeat (first | (apply ot_tk rfl (by rfl) (by rfl) (by rfl); (focus (intro wx hSw; have r0 := (hSw.cell (p := ⟨w.heap.size, 0, none⟩) hszW).trans q0; have r1 := (hSw.cell (p := ⟨w.heap.size, 1, none⟩) hszW).trans q1; have r2 := (hSw.cell (p := ⟨w.heap.size, 2, none⟩) hszW).trans q2; have r3 := (hSw.cell (p := ⟨w.heap.size + 1, 0, none⟩) hszW1).trans p0; have r4 := (hSw.cell (p := ⟨w.heap.size + 1, 1, none⟩) hszW1).trans p1; have r5 := (hSw.cell (p := ⟨w.heap.size + 1, 2, none⟩) hszW1).trans p2; go_simp; (try with_reducible rfl))); (try simp only [Act.put, List.setIfInBounds_toArray, List.set_cons_zero, List.set_cons_succ])) | (apply ot_skip rfl (by rfl) (by rfl) (fun _ => hBe); (try simp only [Act.put, List.setIfInBounds_toArray, List.set_cons_zero, List.set_cons_succ])))
      (refine ot_do rfl (by rfl) (by rfl) (fun K hK => ?_); go_simp; refine ((hCom _).mono fun _ _ h => Qt.re h).mono ?_; rintro e wq ⟨rfl, hb2⟩; (try replace bO := bO.all hb2); (try replace hO := hO.below hb2); replace hBe := hBe.trans (hb2.mono hBe.size); clear hb2; refine hK.out _ _ (fun _ => hBe) ?_; (try simp only [Act.put, List.setIfInBounds_toArray, List.set_cons_zero, List.set_cons_succ]); clear hK K)
      repeat (first | (apply ot_tk rfl (by rfl) (by rfl) (by rfl); (focus (intro wx hSw; have r0 := (hSw.cell (p := ⟨w.heap.size, 0, none⟩) hszW).trans q0; have r1 := (hSw.cell (p := ⟨w.heap.size, 1, none⟩) hszW).trans q1; have r2 := (hSw.cell (p := ⟨w.heap.size, 2, none⟩) hszW).trans q2; have r3 := (hSw.cell (p := ⟨w.heap.size + 1, 0, none⟩) hszW1).trans p0; have r4 := (hSw.cell (p := ⟨w.heap.size + 1, 1, none⟩) hszW1).trans p1; have r5 := (hSw.cell (p := ⟨w.heap.size + 1, 2, none⟩) hszW1).trans p2; go_simp; (try with_reducible rfl))); (try simp only [Act.put, List.setIfInBounds_toArray, List.set_cons_zero, List.set_cons_succ])) | (apply ot_skip rfl (by rfl) (by rfl) (fun _ => hBe); (try simp only [Act.put, List.setIfInBounds_toArray, List.set_cons_zero, List.set_cons_succ])))
      have r0 := bO.cell 0
      have r1 := bO.cell 1
      have r2 := bO.cell 2
      have f0 := bO.frozen 0
      have f1 := bO.frozen 1
      have f2 := bO.frozen 2
      have hI : MetIn W W.heap.size (w.heap.size + 1 + 1) g (.slice Avo (os1.length + os2.length) cvo) (os1 ++ os2) D (.slice none 0 0) [] (put3 wq g (.slice Avo (os1.length + os2.length) cvo) (.int .i64 D) (.slice none 0 0)) := ⟨put3_far (bR.all hBe) (by omega), put3_own bO (by decide) hO, put3_blk bO, Ow.nil _ _, fun b hb => by simp [Value.ownBlock], put3_below hBe hgB⟩
      refine ot_do rfl (by rfl) (by rfl) (fun K hK => ?_)
      go_simp
      refine hK.out _ _ (fun h => absurd h (by omega)) ?_
      (try simp only [Act.put, List.setIfInBounds_toArray, List.set_cons_zero, List.set_cons_succ])
      clear hK K
      refine ot_nil ?_
      clear r0 r1 r2 f0 f1 f2 bO hO
      have hRs := hide (show w.heap.size + 1 + 1 < g by omega)
      have hS0 := hide (show sumL D e1 e2 (vs1.take 0) vs2 = [] from rfl)
      have hR0 := hide (fun v => show sumR D e1 e2 v (vs2.take 0) = [] from rfl)
      obtain ⟨vo, hvo⟩ : ∃ vo, Value.slice Avo (os1.length + os2.length) cvo = vo := ⟨_, rfl⟩
      have hVO := hide hvo
      obtain ⟨W3, hW3⟩ : ∃ W3, put3 wq g (.slice Avo (os1.length + os2.length) cvo) (.int .i64 D) (.slice none 0 0) = W3 := ⟨_, rfl⟩
      unfold put3 at hW3
      unfold put3 at hI
      rw [hW3, hvo] at hI
      rw [hW3]
      clear hW3 hvo
      go_wp2_with fail
      go_loopw [6] (fun x wr => ∃ (k : Nat) (vv : Value), k ≤ vs1.length ∧ x = .int .i64 k ∧ MetIn W W.heap.size (w.heap.size + 1 + 1) g vo (os1 ++ os2) D vv (sumL D e1 e2 (vs1.take k) vs2) wr) (fun x _ => vs1.length - (intOf x).toNat)
      case atStart => exact ⟨0, _, by omega, rfl, by rw [hS0.out]; exact hI⟩
      case round =>
        clear hI hBe
        obtain ⟨k, vv, hk, rfl, hI⟩ := hrel
        have c2 := (hI.below.cell (p := ⟨w.heap.size, 2, none⟩) hszW).trans q2
        by_cases hlt : k < vs1.length
        · obtain ⟨b, off, rfl, hb, hc⟩ := hg1.at_ (by omega)
          have cv := hc k hlt
          clear hc
          have hv := hok1.rng _ (gi_mem hlt)
          have hsn := hide (sumL_snoc D e1 e2 vs2 hlt)
          obtain ⟨v, ev⟩ : ∃ v, gi vs1 k = v := ⟨_, rfl⟩
          rw [ev] at cv hv hsn
          clear ev
          go_wp2_with fail
          clear c2
          go_loopw [7] (fun y wr => ∃ (j : Nat) (vv : Value), j ≤ vs2.length ∧ y = .int .i64 j ∧ MetIn W W.heap.size (w.heap.size + 1 + 1) g vo (os1 ++ os2) D vv (sumL D e1 e2 (vs1.take k) vs2 ++ sumR D e1 e2 v (vs2.take j)) wr) (fun y _ => vs2.length - (intOf y).toNat)
          case atStart => exact ⟨0, vv, by omega, rfl, by rw [hR0.out, List.append_nil]; exact hI⟩
          case round =>
            clear hI
            obtain ⟨j, vv, hj, rfl, hI⟩ := hrel
            have c2 := (hI.below.cell (p := ⟨w.heap.size + 1, 2, none⟩) hszW1).trans p2
            obtain ⟨xs, hxs⟩ : ∃ xs, sumL D e1 e2 (vs1.take k) vs2 ++ sumR D e1 e2 v (vs2.take j) = xs := ⟨_, rfl⟩
            have hlen : xs.length ≤ 1000 := by
              rw [← hxs, List.length_append, sumL_len, sumR_len]
              have : (vs1.take k).length * vs2.length ≤ 16 * 16 := Nat.mul_le_mul (by rw [List.length_take]; omega) hv2
              have : (vs2.take j).length ≤ 16 := by rw [List.length_take]; omega
              omega
            rw [hxs] at hI
            have hX := hide hxs
            clear hxs
            have hsz := hI.out.lt
            by_cases hlj : j < vs2.length
            · obtain ⟨b', off', rfl, hb', hc'⟩ := hg2.at_ (by omega)
              have cu := hc' j hlj
              clear hc'
              have hu := hok2.rng _ (gi_mem hlj)
              have hsm := hide (sumR_snoc D e1 e2 v hlj)
              obtain ⟨u, eu⟩ : ∃ u, gi vs2 j = u := ⟨_, rfl⟩
              rw [eu] at cu hu hsm
              clear eu
              have b1 : 0 ≤ v * (e1 : Int) := Int.mul_nonneg hv.1 (by omega)
              have b2 : v * (e1 : Int) ≤ 55440 * 55440 := Int.mul_le_mul (by omega) (by omega) (by omega) (by omega)
              have b3 : 0 ≤ u * (e2 : Int) := Int.mul_nonneg hu.1 (by omega)
              have b4 : u * (e2 : Int) ≤ 55440 * 55440 := Int.mul_le_mul (by omega) (by omega) (by omega) (by omega)
              obtain ⟨P1, hP1⟩ : ∃ P1, v * (e1 : Int) = P1 := ⟨_, rfl⟩
              obtain ⟨P2, hP2⟩ : ∃ P2, u * (e2 : Int) = P2 := ⟨_, rfl⟩
              rw [hP1] at b1 b2 hsm
              rw [hP2] at b3 b4 hsm
              have u1 : IntKind.i64.wrap (v * (e1 : Int)) = P1 := by rw [hP1]; exact wrap_in (by omega) (by omega)
              have u2 : IntKind.i64.wrap (u * (e2 : Int)) = P2 := by rw [hP2]; exact wrap_in (by omega) (by omega)
              clear hP1 hP2
              have u3 : IntKind.i64.wrap (P1 + P2) = P1 + P2 := wrap_in (by omega) (by omega)
              have u4 : (P1 + P2).tmod (D : Int) = (P1 + P2) % (D : Int) := Int.tmod_eq_emod_of_nonneg (by omega)
              obtain ⟨Y, hY⟩ : ∃ Y, (P1 + P2) % (D : Int) = Y := ⟨_, rfl⟩
              rw [hY] at u4 hsm
              have HY := hide hY
              clear hY
              have i0 : 0 ≤ (k : Int) := by omega
              have i1 : (k : Int) < (vs1.length : Int) := by omega
              have i2 : 0 ≤ (j : Int) := by omega
              have i3 : (j : Int) < (vs2.length : Int) := by omega
              have HR := hide (show ∀ wx, Below W.heap.size W wx → (wx.cell? ⟨w.heap.size, 0, none⟩ = some (.slice A1 os1.length c1) ∧ wx.cell? ⟨w.heap.size, 1, none⟩ = some (.int .i64 D1) ∧ wx.cell? ⟨w.heap.size, 2, none⟩ = some (.slice (some ⟨b, off, none⟩) vs1.length k1) ∧ wx.cell? ⟨b, off + k, none⟩ = some (.int .i64 v)) ∧ wx.cell? ⟨w.heap.size + 1, 1, none⟩ = some (.int .i64 D2) ∧ wx.cell? ⟨w.heap.size + 1, 2, none⟩ = some (.slice (some ⟨b', off', none⟩) vs2.length k2) ∧ wx.cell? ⟨b', off' + j, none⟩ = some (.int .i64 u) from fun wx hwx => ⟨⟨(hwx.cell (p := ⟨w.heap.size, 0, none⟩) hszW).trans q0, (hwx.cell (p := ⟨w.heap.size, 1, none⟩) hszW).trans q1, (hwx.cell (p := ⟨w.heap.size, 2, none⟩) hszW).trans q2, (hwx.cell (p := ⟨b, off + k, none⟩) (by show b < W.heap.size; omega)).trans cv⟩, (hwx.cell (p := ⟨w.heap.size + 1, 1, none⟩) hszW1).trans p1, (hwx.cell (p := ⟨w.heap.size + 1, 2, none⟩) hszW1).trans p2, (hwx.cell (p := ⟨b', off' + j, none⟩) (by show b' < W.heap.size; omega)).trans cu⟩)
              go_wp2_with fail
              clear c2
              refine wp_region_ord [0, 1, 2, 3, 4, 5, 6, 7, 8, 9, 10, 11, 12, 13, 14, 15, 16, 17, 18, 19, 20, 21, 22, 23, 24, 25, 26, 27, 28, 29, 30, 31] 30 (fun w' => (w'.cell? ⟨g, 0, none⟩ = some vo ∧ w'.cell? ⟨g, 1, none⟩ = some (.int .i64 D) ∧ w'.cell? ⟨g, 2, none⟩ = some vv) ∧ (w'.cell? ⟨w.heap.size, 0, none⟩ = some (.slice A1 os1.length c1) ∧ w'.cell? ⟨w.heap.size, 1, none⟩ = some (.int .i64 D1) ∧ w'.cell? ⟨w.heap.size, 2, none⟩ = some (.slice (some ⟨b, off, none⟩) vs1.length k1) ∧ w'.cell? ⟨b, off + k, none⟩ = some (.int .i64 v)) ∧ w'.cell? ⟨w.heap.size + 1, 1, none⟩ = some (.int .i64 D2) ∧ w'.cell? ⟨w.heap.size + 1, 2, none⟩ = some (.slice (some ⟨b', off', none⟩) vs2.length k2) ∧ w'.cell? ⟨b', off' + j, none⟩ = some (.int .i64 u)) (by kernel_rfl) (by kernel_rfl) (by kernel_rfl) (fun _ _ _ _ _ h => h) ⟨hI.reads, HR.out _ hI.below.drew⟩ ?_
              repeat (apply ord_take rfl (by rfl) (by rfl); (focus (intro w hSw; (try dsimp only at hSw); go_simp; (try with_reducible rfl))); (try simp only [Act.put, List.setIfInBounds_toArray, List.set_cons_zero, List.set_cons_succ]))
              have hwz := hI.below.size
              have hK1 := hI.drew
              refine ord_do rfl (by rfl) (by rfl) (fun K hK => ?_)
              go_simp
              have hJ := hK1.alloc (by simp; omega) (.cells #[.int .i64 Y] 2)
              refine hK.out _ _ (fun _ => ⟨hJ.reads, HR.out _ hJ.below⟩) ?_
              (try simp only [Act.put, List.setIfInBounds_toArray, List.set_cons_zero, List.set_cons_succ])
              clear hK K
              refine ord_do rfl (by rfl) (by rfl) (fun K hK => ?_)
              refine wp_push _ _ _ (by rfl) W.heap.size vv xs (by rfl) hJ.vals _ wr.heap.size _ (by rfl) (Blk.new _ _ _) (by omega) (by simp; omega) (by simp) ?_
              intro g2 cap2 w2 hP
              have o2 := hJ.pushed hP
              have hK2 := hJ.below.trans (hP.below hJ.vals (by simp; omega))
              refine hK.out _ _ (fun _ => ⟨⟨o2.cell 0, o2.cell 1, o2.cell 2⟩, HR.out _ hK2⟩) ?_
              (try simp only [Act.put, List.setIfInBounds_toArray, List.set_cons_zero, List.set_cons_succ])
              clear hK K
              refine ord_do rfl (by rfl) (by rfl) (fun K hK => ?_)
              go_simp
              refine hK.out _ _ (fun h => absurd h (by omega)) ?_
              (try simp only [Act.put, List.setIfInBounds_toArray, List.set_cons_zero, List.set_cons_succ])
              clear hK K
              have c2' := o2.cell 2
              have f2' := o2.frozen 2
              refine ord_do rfl (by rfl) (by rfl) (fun K hK => ?_)
              go_simp
              refine hK.out _ _ (fun h => absurd h (by omega)) ?_
              (try simp only [Act.put, List.setIfInBounds_toArray, List.set_cons_zero, List.set_cons_succ])
              clear hK K
              refine ord_nil ?_
              clear u1 u2 u3 u4
              go_wp2
              go_roundw
              case rel => exact ⟨j + 1, _, by omega, by go_num, by rw [hsm.out, ← List.append_assoc, hX.out]; exact hJ.step hP (by simp; omega) (by have := hRs.out; omega) (by omega) (hI.ordsNe (by omega))⟩
              case measure => simp [intOf]; omega
            · obtain rfl : j = vs2.length := by omega
              have hE := hide (show sumL D e1 e2 (vs1.take (k + 1)) vs2 = xs by rw [hsn.out, ← hX.out, List.take_length])
              go_wp2_with fail
              go_roundw
              case rel => exact ⟨k + 1, vv, by omega, by go_num, by rw [hE.out]; exact hI⟩
              case measure => simp [intOf]; omega
        · obtain ⟨xs, hxs⟩ : ∃ xs, sumL D e1 e2 (vs1.take k) vs2 = xs := ⟨_, rfl⟩
          rw [hxs] at hI
          have hTk := hide (show sumL D e1 e2 vs1 vs2 = xs by rw [← hxs, show k = vs1.length by omega, List.take_length])
          clear hxs
          obtain ⟨A5, c5, rfl⟩ := hI.vals.val
          obtain ⟨o0, o1, o2⟩ := hI.reads
          have hres := hI.res
          rw [← hVO.out] at hI o0
          have r0 := hres.cell 0
          have r1 := hres.cell 1
          have r2 := hres.cell 2
          have f0 := hres.frozen 0
          have f1 := hres.frozen 1
          have f2 := hres.frozen 2
          go_wp2
          have hb3 := put3_blk (x := .slice Avo (os1.length + os2.length) cvo) (y := .int .i64 D) (z := .slice A5 xs.length c5) hres
          have q0 := hb3.cell 0
          have q1 := hb3.cell 1
          have q2 := hb3.cell 2
          unfold put3 at q0 q1 q2
          refine bodyPost_ret (v := .agg #[.slice Avo (os1.length + os2.length) cvo, .int .i64 D, .slice A5 xs.length c5]) (by simp [results, Tryz.results76, go_sem, q0, q1, q2]) rfl ?_
          rw [hTk.out]
          exact (hI.weak hbW (Nat.le_of_lt hszW)).done1 (by omega)
  · skip
    (refine ot_do rfl (by rfl) (by rfl) (fun K hK => ?_); go_simp; obtain ⟨wa, g, hg, hwa, hBa, hsub, bO, hgB⟩ := be_alloc hBe 26 #[.slice none 0 0, .int .i64 0, .slice none 0 0]; rw [hwa, hg]; clear hwa hg; (try replace hO := hO.below hsub); clear hBe hsub; have hBe := hBa; clear hBa; refine hK.out _ _ (fun _ => hBe) ?_; (try simp only [Act.put, List.setIfInBounds_toArray, List.set_cons_zero, List.set_cons_succ]); clear hK K)
    repeat (first | (apply ot_tk rfl (by rfl) (by rfl) (by rfl); (focus (intro wx hSw; have r0 := (hSw.cell (p := ⟨w.heap.size, 0, none⟩) hszW).trans q0; have r1 := (hSw.cell (p := ⟨w.heap.size, 1, none⟩) hszW).trans q1; have r2 := (hSw.cell (p := ⟨w.heap.size, 2, none⟩) hszW).trans q2; have r3 := (hSw.cell (p := ⟨w.heap.size + 1, 0, none⟩) hszW1).trans p0; have r4 := (hSw.cell (p := ⟨w.heap.size + 1, 1, none⟩) hszW1).trans p1; have r5 := (hSw.cell (p := ⟨w.heap.size + 1, 2, none⟩) hszW1).trans p2; go_simp; (try with_reducible rfl))); (try simp only [Act.put, List.setIfInBounds_toArray, List.set_cons_zero, List.set_cons_succ])) | (apply ot_skip rfl (by rfl) (by rfl) (fun _ => hBe); (try simp only [Act.put, List.setIfInBounds_toArray, List.set_cons_zero, List.set_cons_succ])))
    (refine ot_do rfl (by rfl) (by rfl) (fun K hK => ?_); go_simp; refine (l01Own_any _ _ _ _ _ _ (hs1.below (hBe.mono (Nat.le_of_lt hszW))) (by have := hBe.size; omega) (by omega)).mono ?_; rintro e wn ⟨v, rfl, hO, hb2⟩; obtain ⟨Av, cv, rfl⟩ := hO.val; (try replace bO := bO.all hb2); replace hO := hO.less (show W.heap.size ≤ _ from hBe.size); replace hBe := hBe.trans (hb2.mono hBe.size); clear hb2; refine hK.out _ _ (fun _ => hBe) ?_; (try simp only [Act.put, List.setIfInBounds_toArray, List.set_cons_zero, List.set_cons_succ]); clear hK K)
    repeat (first | (apply ot_tk rfl (by rfl) (by rfl) (by rfl); (focus (intro wx hSw; have r0 := (hSw.cell (p := ⟨w.heap.size, 0, none⟩) hszW).trans q0; have r1 := (hSw.cell (p := ⟨w.heap.size, 1, none⟩) hszW).trans q1; have r2 := (hSw.cell (p := ⟨w.heap.size, 2, none⟩) hszW).trans q2; have r3 := (hSw.cell (p := ⟨w.heap.size + 1, 0, none⟩) hszW1).trans p0; have r4 := (hSw.cell (p := ⟨w.heap.size + 1, 1, none⟩) hszW1).trans p1; have r5 := (hSw.cell (p := ⟨w.heap.size + 1, 2, none⟩) hszW1).trans p2; go_simp; (try with_reducible rfl))); (try simp only [Act.put, List.setIfInBounds_toArray, List.set_cons_zero, List.set_cons_succ])) | (apply ot_skip rfl (by rfl) (by rfl) (fun _ => hBe); (try simp only [Act.put, List.setIfInBounds_toArray, List.set_cons_zero, List.set_cons_succ])))
    (refine ot_do rfl (by rfl) (by rfl) (fun K hK => ?_); refine wp_app _ _ _ (by rfl) W.heap.size _ os1 (by rfl) hO _ A2 os2.length c2 os2 (by rfl) (hs2.below (hBe.mono (Nat.le_of_lt hszW))) (by omega) hBe.size ?_; intro vo wp hA; have y3 := hA.2.1; obtain ⟨Avo, cvo, hvv⟩ := hA.own.val; rw [List.length_append] at hvv; subst hvv; (try replace bO := bO.grown y3 (hO.blk_ne bO (by decide))); replace hBe := hBe.grown y3 hBe.size (fun k hk => (hO.lt k hk).1); replace hO : Ow wp W.heap.size (.slice Avo (os1.length + os2.length) cvo) (os1 ++ os2) := hA.own; clear hA y3; refine hK.out _ _ (fun _ => hBe) ?_; (try simp only [Act.put, List.setIfInBounds_toArray, List.set_cons_zero, List.set_cons_succ]); clear hK K)
    repeat (first | (apply ot_tk rfl (by rfl) (by rfl) (by rfl); (focus (intro wx hSw; have r0 := (hSw.cell (p := ⟨w.heap.size, 0, none⟩) hszW).trans q0; have r1 := (hSw.cell (p := ⟨w.heap.size, 1, none⟩) hszW).trans q1; have r2 := (hSw.cell (p := ⟨w.heap.size, 2, none⟩) hszW).trans q2; have r3 := (hSw.cell (p := ⟨w.heap.size + 1, 0, none⟩) hszW1).trans p0; have r4 := (hSw.cell (p := ⟨w.heap.size + 1, 1, none⟩) hszW1).trans p1; have r5 := (hSw.cell (p := ⟨w.heap.size + 1, 2, none⟩) hszW1).trans p2; go_simp; (try with_reducible rfl))); (try simp only [Act.put, List.setIfInBounds_toArray, List.set_cons_zero, List.set_cons_succ])) | (apply ot_skip rfl (by rfl) (by rfl) (fun _ => hBe); (try simp only [Act.put, List.setIfInBounds_toArray, List.set_cons_zero, List.set_cons_succ])))
    (refine ot_do rfl (by rfl) (by rfl) (fun K hK => ?_); go_simp; refine ((hCom _).mono fun _ _ h => Qt.re h).mono ?_; rintro e wq ⟨rfl, hb2⟩; (try replace bO := bO.all hb2); (try replace hO := hO.below hb2); replace hBe := hBe.trans (hb2.mono hBe.size); clear hb2; refine hK.out _ _ (fun _ => hBe) ?_; (try simp only [Act.put, List.setIfInBounds_toArray, List.set_cons_zero, List.set_cons_succ]); clear hK K)
    repeat (first | (apply ot_tk rfl (by rfl) (by rfl) (by rfl); (focus (intro wx hSw; have r0 := (hSw.cell (p := ⟨w.heap.size, 0, none⟩) hszW).trans q0; have r1 := (hSw.cell (p := ⟨w.heap.size, 1, none⟩) hszW).trans q1; have r2 := (hSw.cell (p := ⟨w.heap.size, 2, none⟩) hszW).trans q2; have r3 := (hSw.cell (p := ⟨w.heap.size + 1, 0, none⟩) hszW1).trans p0; have r4 := (hSw.cell (p := ⟨w.heap.size + 1, 1, none⟩) hszW1).trans p1; have r5 := (hSw.cell (p := ⟨w.heap.size + 1, 2, none⟩) hszW1).trans p2; go_simp; (try with_reducible rfl))); (try simp only [Act.put, List.setIfInBounds_toArray, List.set_cons_zero, List.set_cons_succ])) | (apply ot_skip rfl (by rfl) (by rfl) (fun _ => hBe); (try simp only [Act.put, List.setIfInBounds_toArray, List.set_cons_zero, List.set_cons_succ])))
    have r0 := bO.cell 0
    have r1 := bO.cell 1
    have r2 := bO.cell 2
    have f0 := bO.frozen 0
    have f1 := bO.frozen 1
    have f2 := bO.frozen 2
    have hI : MetIn W W.heap.size (w.heap.size + 1 + 1) g (.slice Avo (os1.length + os2.length) cvo) (os1 ++ os2) D (.slice none 0 0) [] (put3 wq g (.slice Avo (os1.length + os2.length) cvo) (.int .i64 D) (.slice none 0 0)) := ⟨put3_far (bR.all hBe) (by omega), put3_own bO (by decide) hO, put3_blk bO, Ow.nil _ _, fun b hb => by simp [Value.ownBlock], put3_below hBe hgB⟩
    refine ot_do rfl (by rfl) (by rfl) (fun K hK => ?_)
    go_simp
    refine hK.out _ _ (fun h => absurd h (by omega)) ?_
    (try simp only [Act.put, List.setIfInBounds_toArray, List.set_cons_zero, List.set_cons_succ])
    clear hK K
    refine ot_nil ?_
    clear r0 r1 r2 f0 f1 f2 bO hO
    have hRs := hide (show w.heap.size + 1 + 1 < g by omega)
    have hS0 := hide (show sumL D e1 e2 (vs1.take 0) vs2 = [] from rfl)
    have hR0 := hide (fun v => show sumR D e1 e2 v (vs2.take 0) = [] from rfl)
    obtain ⟨vo, hvo⟩ : ∃ vo, Value.slice Avo (os1.length + os2.length) cvo = vo := ⟨_, rfl⟩
    have hVO := hide hvo
    obtain ⟨W3, hW3⟩ : ∃ W3, put3 wq g (.slice Avo (os1.length + os2.length) cvo) (.int .i64 D) (.slice none 0 0) = W3 := ⟨_, rfl⟩
    unfold put3 at hW3
    unfold put3 at hI
    rw [hW3, hvo] at hI
    rw [hW3]
    clear hW3 hvo
    go_wp2_with fail
    go_loopw [6] (fun x wr => ∃ (k : Nat) (vv : Value), k ≤ vs1.length ∧ x = .int .i64 k ∧ MetIn W W.heap.size (w.heap.size + 1 + 1) g vo (os1 ++ os2) D vv (sumL D e1 e2 (vs1.take k) vs2) wr) (fun x _ => vs1.length - (intOf x).toNat)
    case atStart => exact ⟨0, _, by omega, rfl, by rw [hS0.out]; exact hI⟩
    case round =>
      clear hI hBe
      obtain ⟨k, vv, hk, rfl, hI⟩ := hrel
      have c2 := (hI.below.cell (p := ⟨w.heap.size, 2, none⟩) hszW).trans q2
      by_cases hlt : k < vs1.length
      · obtain ⟨b, off, rfl, hb, hc⟩ := hg1.at_ (by omega)
        have cv := hc k hlt
        clear hc
        have hv := hok1.rng _ (gi_mem hlt)
        have hsn := hide (sumL_snoc D e1 e2 vs2 hlt)
        obtain ⟨v, ev⟩ : ∃ v, gi vs1 k = v := ⟨_, rfl⟩
        rw [ev] at cv hv hsn
        clear ev
        go_wp2_with fail
        clear c2
        go_loopw [7] (fun y wr => ∃ (j : Nat) (vv : Value), j ≤ vs2.length ∧ y = .int .i64 j ∧ MetIn W W.heap.size (w.heap.size + 1 + 1) g vo (os1 ++ os2) D vv (sumL D e1 e2 (vs1.take k) vs2 ++ sumR D e1 e2 v (vs2.take j)) wr) (fun y _ => vs2.length - (intOf y).toNat)
        case atStart => exact ⟨0, vv, by omega, rfl, by rw [hR0.out, List.append_nil]; exact hI⟩
        case round =>
          clear hI
          obtain ⟨j, vv, hj, rfl, hI⟩ := hrel
          have c2 := (hI.below.cell (p := ⟨w.heap.size + 1, 2, none⟩) hszW1).trans p2
          obtain ⟨xs, hxs⟩ : ∃ xs, sumL D e1 e2 (vs1.take k) vs2 ++ sumR D e1 e2 v (vs2.take j) = xs := ⟨_, rfl⟩
          have hlen : xs.length ≤ 1000 := by
            rw [← hxs, List.length_append, sumL_len, sumR_len]
            have : (vs1.take k).length * vs2.length ≤ 16 * 16 := Nat.mul_le_mul (by rw [List.length_take]; omega) hv2
            have : (vs2.take j).length ≤ 16 := by rw [List.length_take]; omega
            omega
          rw [hxs] at hI
          have hX := hide hxs
          clear hxs
          have hsz := hI.out.lt
          by_cases hlj : j < vs2.length
          · obtain ⟨b', off', rfl, hb', hc'⟩ := hg2.at_ (by omega)
            have cu := hc' j hlj
            clear hc'
            have hu := hok2.rng _ (gi_mem hlj)
            have hsm := hide (sumR_snoc D e1 e2 v hlj)
            obtain ⟨u, eu⟩ : ∃ u, gi vs2 j = u := ⟨_, rfl⟩
            rw [eu] at cu hu hsm
            clear eu
            have b1 : 0 ≤ v * (e1 : Int) := Int.mul_nonneg hv.1 (by omega)
            have b2 : v * (e1 : Int) ≤ 55440 * 55440 := Int.mul_le_mul (by omega) (by omega) (by omega) (by omega)
            have b3 : 0 ≤ u * (e2 : Int) := Int.mul_nonneg hu.1 (by omega)
            have b4 : u * (e2 : Int) ≤ 55440 * 55440 := Int.mul_le_mul (by omega) (by omega) (by omega) (by omega)
            obtain ⟨P1, hP1⟩ : ∃ P1, v * (e1 : Int) = P1 := ⟨_, rfl⟩
            obtain ⟨P2, hP2⟩ : ∃ P2, u * (e2 : Int) = P2 := ⟨_, rfl⟩
            rw [hP1] at b1 b2 hsm
            rw [hP2] at b3 b4 hsm
            have u1 : IntKind.i64.wrap (v * (e1 : Int)) = P1 := by rw [hP1]; exact wrap_in (by omega) (by omega)
            have u2 : IntKind.i64.wrap (u * (e2 : Int)) = P2 := by rw [hP2]; exact wrap_in (by omega) (by omega)
            clear hP1 hP2
            have u3 : IntKind.i64.wrap (P1 + P2) = P1 + P2 := wrap_in (by omega) (by omega)
            have u4 : (P1 + P2).tmod (D : Int) = (P1 + P2) % (D : Int) := Int.tmod_eq_emod_of_nonneg (by omega)
            obtain ⟨Y, hY⟩ : ∃ Y, (P1 + P2) % (D : Int) = Y := ⟨_, rfl⟩
            rw [hY] at u4 hsm
            have HY := hide hY
            clear hY
            have i0 : 0 ≤ (k : Int) := by omega
            have i1 : (k : Int) < (vs1.length : Int) := by omega
            have i2 : 0 ≤ (j : Int) := by omega
            have i3 : (j : Int) < (vs2.length : Int) := by omega
            have HR := hide (show ∀ wx, Below W.heap.size W wx → (wx.cell? ⟨w.heap.size, 0, none⟩ = some (.slice A1 os1.length c1) ∧ wx.cell? ⟨w.heap.size, 1, none⟩ = some (.int .i64 D1) ∧ wx.cell? ⟨w.heap.size, 2, none⟩ = some (.slice (some ⟨b, off, none⟩) vs1.length k1) ∧ wx.cell? ⟨b, off + k, none⟩ = some (.int .i64 v)) ∧ wx.cell? ⟨w.heap.size + 1, 1, none⟩ = some (.int .i64 D2) ∧ wx.cell? ⟨w.heap.size + 1, 2, none⟩ = some (.slice (some ⟨b', off', none⟩) vs2.length k2) ∧ wx.cell? ⟨b', off' + j, none⟩ = some (.int .i64 u) from fun wx hwx => ⟨⟨(hwx.cell (p := ⟨w.heap.size, 0, none⟩) hszW).trans q0, (hwx.cell (p := ⟨w.heap.size, 1, none⟩) hszW).trans q1, (hwx.cell (p := ⟨w.heap.size, 2, none⟩) hszW).trans q2, (hwx.cell (p := ⟨b, off + k, none⟩) (by show b < W.heap.size; omega)).trans cv⟩, (hwx.cell (p := ⟨w.heap.size + 1, 1, none⟩) hszW1).trans p1, (hwx.cell (p := ⟨w.heap.size + 1, 2, none⟩) hszW1).trans p2, (hwx.cell (p := ⟨b', off' + j, none⟩) (by show b' < W.heap.size; omega)).trans cu⟩)
            go_wp2_with fail
            clear c2
            refine wp_region_ord [0, 1, 2, 3, 4, 5, 6, 7, 8, 9, 10, 11, 12, 13, 14, 15, 16, 17, 18, 19, 20, 21, 22, 23, 24, 25, 26, 27, 28, 29, 30, 31] 30 (fun w' => (w'.cell? ⟨g, 0, none⟩ = some vo ∧ w'.cell? ⟨g, 1, none⟩ = some (.int .i64 D) ∧ w'.cell? ⟨g, 2, none⟩ = some vv) ∧ (w'.cell? ⟨w.heap.size, 0, none⟩ = some (.slice A1 os1.length c1) ∧ w'.cell? ⟨w.heap.size, 1, none⟩ = some (.int .i64 D1) ∧ w'.cell? ⟨w.heap.size, 2, none⟩ = some (.slice (some ⟨b, off, none⟩) vs1.length k1) ∧ w'.cell? ⟨b, off + k, none⟩ = some (.int .i64 v)) ∧ w'.cell? ⟨w.heap.size + 1, 1, none⟩ = some (.int .i64 D2) ∧ w'.cell? ⟨w.heap.size + 1, 2, none⟩ = some (.slice (some ⟨b', off', none⟩) vs2.length k2) ∧ w'.cell? ⟨b', off' + j, none⟩ = some (.int .i64 u)) (by kernel_rfl) (by kernel_rfl) (by kernel_rfl) (fun _ _ _ _ _ h => h) ⟨hI.reads, HR.out _ hI.below.drew⟩ ?_
            repeat (apply ord_take rfl (by rfl) (by rfl); (focus (intro w hSw; (try dsimp only at hSw); go_simp; (try with_reducible rfl))); (try simp only [Act.put, List.setIfInBounds_toArray, List.set_cons_zero, List.set_cons_succ]))
            have hwz := hI.below.size
            have hK1 := hI.drew
            refine ord_do rfl (by rfl) (by rfl) (fun K hK => ?_)
            go_simp
            have hJ := hK1.alloc (by simp; omega) (.cells #[.int .i64 Y] 2)
            refine hK.out _ _ (fun _ => ⟨hJ.reads, HR.out _ hJ.below⟩) ?_
            (try simp only [Act.put, List.setIfInBounds_toArray, List.set_cons_zero, List.set_cons_succ])
            clear hK K
            refine ord_do rfl (by rfl) (by rfl) (fun K hK => ?_)
            refine wp_push _ _ _ (by rfl) W.heap.size vv xs (by rfl) hJ.vals _ wr.heap.size _ (by rfl) (Blk.new _ _ _) (by omega) (by simp; omega) (by simp) ?_
            intro g2 cap2 w2 hP
            have o2 := hJ.pushed hP
            have hK2 := hJ.below.trans (hP.below hJ.vals (by simp; omega))
            refine hK.out _ _ (fun _ => ⟨⟨o2.cell 0, o2.cell 1, o2.cell 2⟩, HR.out _ hK2⟩) ?_
            (try simp only [Act.put, List.setIfInBounds_toArray, List.set_cons_zero, List.set_cons_succ])
            clear hK K
            refine ord_do rfl (by rfl) (by rfl) (fun K hK => ?_)
            go_simp
            refine hK.out _ _ (fun h => absurd h (by omega)) ?_
            (try simp only [Act.put, List.setIfInBounds_toArray, List.set_cons_zero, List.set_cons_succ])
            clear hK K
            have c2' := o2.cell 2
            have f2' := o2.frozen 2
            refine ord_do rfl (by rfl) (by rfl) (fun K hK => ?_)
            go_simp
            refine hK.out _ _ (fun h => absurd h (by omega)) ?_
            (try simp only [Act.put, List.setIfInBounds_toArray, List.set_cons_zero, List.set_cons_succ])
            clear hK K
            refine ord_nil ?_
            clear u1 u2 u3 u4
            go_wp2
            go_roundw
            case rel => exact ⟨j + 1, _, by omega, by go_num, by rw [hsm.out, ← List.append_assoc, hX.out]; exact hJ.step hP (by simp; omega) (by have := hRs.out; omega) (by omega) (hI.ordsNe (by omega))⟩
            case measure => simp [intOf]; omega
          · obtain rfl : j = vs2.length := by omega
            have hE := hide (show sumL D e1 e2 (vs1.take (k + 1)) vs2 = xs by rw [hsn.out, ← hX.out, List.take_length])
            go_wp2_with fail
            go_roundw
            case rel => exact ⟨k + 1, vv, by omega, by go_num, by rw [hE.out]; exact hI⟩
            case measure => simp [intOf]; omega
      · obtain ⟨xs, hxs⟩ : ∃ xs, sumL D e1 e2 (vs1.take k) vs2 = xs := ⟨_, rfl⟩
        rw [hxs] at hI
        have hTk := hide (show sumL D e1 e2 vs1 vs2 = xs by rw [← hxs, show k = vs1.length by omega, List.take_length])
        clear hxs
        obtain ⟨A5, c5, rfl⟩ := hI.vals.val
        obtain ⟨o0, o1, o2⟩ := hI.reads
        have hres := hI.res
        rw [← hVO.out] at hI o0
        have r0 := hres.cell 0
        have r1 := hres.cell 1
        have r2 := hres.cell 2
        have f0 := hres.frozen 0
        have f1 := hres.frozen 1
        have f2 := hres.frozen 2
        go_wp2
        have hb3 := put3_blk (x := .slice Avo (os1.length + os2.length) cvo) (y := .int .i64 D) (z := .slice A5 xs.length c5) hres
        have q0 := hb3.cell 0
        have q1 := hb3.cell 1
        have q2 := hb3.cell 2
        unfold put3 at q0 q1 q2
        refine bodyPost_ret (v := .agg #[.slice Avo (os1.length + os2.length) cvo, .int .i64 D, .slice A5 xs.length c5]) (by simp [results, Tryz.results76, go_sem, q0, q1, q2]) rfl ?_
        rw [hTk.out]
        exact (hI.weak hbW (Nat.le_of_lt hszW)).done1 (by omega)

set_option maxRecDepth 100000 in
set_option maxHeartbeats 4000000 in
theorem l10Digits_nil (w : World) (B : Nat) (A : Option Addr) (c : Nat) (h : Sl w B A 0 c []) (hB : B ≤ w.heap.size) :
    Calls Tryz.prog 151 #[.slice A 0 c, .int .i64 0] w (Mk w []) := by
  obtain ⟨i0, hi0, hz0, hz1, hz2⟩ := info_parts int_info
  have hmk := fun W => run_make (P := Tryz.prog) (w := W) 24 2 i0 (.int .i64 0) Tryz.underlying24 hi0 hz0 .i64 .i64 0 0 (by omega) (by omega) (by rw [hz2]; omega) (by omega)
  simp only [hz1, Int.toNat_natCast, Nat.mul_one] at hmk
  go_enter Tryz.func151, Tryz.ntmps151
  go_wp2
  go_loopw [6] (fun i wr => ∃ cs : Array Value, cs.toList = [] ∧ i = .int .i64 (-1) ∧ w.alloc (.cells cs 2) = wr) (fun _ _ => 0)
  case atStart => exact ⟨madeCells #[.int .i64 0] 0, by simp [madeCells], rfl, rfl⟩
  case round =>
    obtain ⟨cs, hcs, rfl, rfl⟩ := hrel
    clear hmk
    go_wp2
    go_ret
    exact ⟨_, rfl, Ow.made' (xs := []) w cs _ 0 rfl hcs (Nat.le_refl _) rfl (by unfold maxLen; omega), (Below.refl _ _).alloc (Nat.le_refl _) _⟩
set_option maxRecDepth 100000 in
set_option maxHeartbeats 8000000 in
theorem l10From_nil (w : World) (A : Option Addr) (c : Nat) (D : Int) (A' : Option Addr) (c' : Nat) (A'' : Option Addr) (c'' : Nat)
    (h : Sl w w.heap.size A 0 c []) (h' : Sl w w.heap.size A' 0 c' []) (h'' : Sl w w.heap.size A'' 0 c'' []) (hD1 : 1 ≤ D) (hD2 : D ≤ 55440) :
    Calls Tryz.prog 126 #[.slice A 0 c, .int .i64 D, .slice A' 0 c', .slice A'' 0 c''] w (MkM1 w [] D [0]) := by
  go_enter Tryz.func126, Tryz.ntmps126
  go_wp2_with fail
  obtain ⟨W, hW⟩ : ∃ W, w.alloc (.cells #[.slice none 0 0, .int .i64 0, .slice none 0 0] 26) = W := ⟨_, rfl⟩
  have hbW : Below w.heap.size w W := by rw [← hW]; exact (by repeat (first | assumption | exact Below.refl _ _ | apply below_drewN | apply Below.drew | apply Below.alloc | apply Below.setCell | omega | (focus (simp; done)) | (focus (simp; omega))))
  have hszW : w.heap.size < W.heap.size := by rw [← hW]; simp
  have bR : Blk W w.heap.size 26 #[.slice none 0 0, .int .i64 0, .slice none 0 0] := by rw [← hW]; exact Blk.new _ _ _
  rw [hW]
  clear hW
  have gs := h.below hbW
  have gs' := h'.below hbW
  have gs'' := h''.below hbW
  refine (l01Own_any _ _ _ _ _ _ gs (Nat.le_of_lt hszW) (by omega)).mono ?_
  rintro e w2 ⟨v, rfl, hO, hb2⟩
  obtain ⟨Av, cv, rfl⟩ := hO.val
  have hBe : Below W.heap.size W w2 := hb2
  obtain ⟨w3, g, hg, hw3, hB3, hsub, bO, hgB⟩ := be_alloc hBe 26 #[.slice none 0 0, .int .i64 0, .slice none 0 0]
  replace hO := hO.below hsub
  replace bR := bR.all hB3
  replace hO := hO.less (show W.heap.size ≤ _ from Nat.le_refl _)
  have hI : MetIn W W.heap.size w.heap.size g (.slice Av 0 cv) [] D (.slice none 0 0) [] (put3 w3 g (.slice Av 0 cv) (.int .i64 D) (.slice none 0 0)) := ⟨put3_far bR (by omega), put3_own bO (by decide) hO, put3_blk bO, Ow.nil _ _, fun b hb => by simp [Value.ownBlock], put3_below hB3 hgB⟩
  have r0 := bO.cell 0
  have r1 := bO.cell 1
  have r2 := bO.cell 2
  have f0 := bO.frozen 0
  have f1 := bO.frozen 1
  have f2 := bO.frozen 2
  have hRs := hide (show w.heap.size < g by omega)
  clear hB3 hsub bO hb2 hBe hO bR
  obtain ⟨W3, hW3⟩ : ∃ W3, put3 w3 g (.slice Av 0 cv) (.int .i64 D) (.slice none 0 0) = W3 := ⟨_, rfl⟩
  unfold put3 at hW3 hI
  rw [hW3] at hI
  go_wp2_with fail
  clear hw3 hg hW3 r0 r1 r2 f0 f1 f2
  go_loopw [10] (fun x wr => ∃ (k : Nat) (vv : Value), k ≤ 1 ∧ x = .int .i64 k ∧ MetIn W W.heap.size w.heap.size g (.slice Av 0 cv) [] D vv ((List.range k).map fun _ => 0) wr) (fun x _ => 1 - (intOf x).toNat)
  case atStart => exact ⟨0, _, by omega, rfl, hI⟩
  case round =>
    clear hI
    obtain ⟨k, vv, hk, rfl, hI⟩ := hrel
    have hwz := hI.below.size
    go_wp2_with fail
    refine (l10Size_gen _ _ _ _ _ _ (gs.below (hI.below.mono (Nat.le_of_lt hszW))) (by simp) (by simp) (by simp [prodL])).mono ?_
    rintro e w4 ⟨rfl, m, hm⟩
    replace hI := hI.drewN m
    rw [← hm] at hI
    clear hm
    have hwz := hI.below.size
    have hp1 : prodL [] = 1 := rfl
    by_cases hlt : k < 1
    · obtain rfl : k = 0 := by omega
      have g4 := gs.below (hI.below.mono (Nat.le_of_lt hszW))
      go_wp2_with fail
      refine (l10Digits_nil _ w.heap.size _ _ g4 (by omega)).mono ?_
      rintro e w5 ⟨v, rfl, hO5, hb5⟩
      replace hI := hI.all hb5 hwz
      replace hwz := hI.below.size
      obtain ⟨A5, c5, rfl, gt⟩ := hO5.sl (by simp)
      clear hO5 hb5 g4
      go_wp2_with fail
      go_loopw [12, 14] (fun s i wr => i = .int .i64 0 ∧ s = .int .i64 0 ∧ Dr w5 wr) (fun _ _ _ => 0)
      case atStart => exact ⟨rfl, rfl, Dr.refl _⟩
      case round =>
        obtain ⟨rfl, rfl, hDr⟩ := hrel
        go_wp2_with fail
        go_loopw [12, 13, 15] (fun s a i wr => i = .int .i64 0 ∧ s = .int .i64 0 ∧ Dr w5 wr) (fun _ _ _ _ => 0)
        case atStart => exact ⟨rfl, rfl, hDr⟩
        case round =>
          clear hDr
          obtain ⟨rfl, rfl, hDr⟩ := hrel
          obtain ⟨m, rfl⟩ := hDr
          replace hI := hI.drewN m
          have hJ := hI.alloc hwz (.cells #[.int .i64 0] 2)
          have o2 := hI.out.cell 2
          go_wp2_with (at_builtin; refine list_push _ rfl _ _ rfl W.heap.size vv [] rfl hJ.vals 0 _ _ rfl (Blk.new _ _ _) (by simp) (by simp; omega) (by simp) ?_; intro g2 cap w6 hP; have o2' := hJ.pushed hP; have c2' := o2'.cell 2; have f2' := o2'.frozen 2)
          go_roundw
          case rel => exact ⟨1, _, by omega, by go_num, hJ.step hP (by simp; omega) (by have := hRs.out; omega) (by omega) (hI.ordsNe (by simp))⟩
          case measure => simp [intOf] <;> omega
    · obtain rfl : k = 1 := by omega
      obtain ⟨A2, c2, rfl⟩ := hI.vals.val
      obtain ⟨o0, o1, o2⟩ := hI.reads
      have hres := hI.res
      have r0 := hres.cell 0
      have r1 := hres.cell 1
      have r2 := hres.cell 2
      have f0 := hres.frozen 0
      have f1 := hres.frozen 1
      have f2 := hres.frozen 2
      go_wp2
      have hb3 := put3_blk (x := .slice Av 0 cv) (y := .int .i64 D) (z := .slice A2 1 c2) hres
      have q0 := hb3.cell 0
      have q1 := hb3.cell 1
      have q2 := hb3.cell 2
      unfold put3 at q0 q1 q2
      refine bodyPost_ret (v := .agg #[.slice Av 0 cv, .int .i64 D, .slice A2 1 c2]) (by simp [results, Tryz.results126, go_sem, q0, q1, q2]) rfl ?_
      exact (hI.weak hbW (Nat.le_of_lt hszW)).done1 (Nat.le_refl _)
end Go.Proofs.YtbpihnpakolooaaGreatDoor
