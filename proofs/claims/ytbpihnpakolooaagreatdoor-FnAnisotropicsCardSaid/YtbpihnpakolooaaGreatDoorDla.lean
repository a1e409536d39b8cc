
/- The walk of l11Draw: a metric is drawn, often with isotropic elements. The walk of l11Sub: a metric and a list, often a subgroup, are drawn. The draws of a metric and a list: DrawOrthogonalSubgroup, DrawCondenseMetric, DrawSubgroupMasks, DrawGreatestIsotropic. The draw of a metric and a list of elements: DrawSubgroupFrom. -/
import Derived.Test.YtbpihnpakolooaaGreatDoorDva
import Derived.Test.YtbpihnpakolooaaGreatDoorMa
import Derived.Test.YtbpihnpakolooaaGreatDoorW3a
import Derived.Deep.DeepCutAuto
import Derived.Test.YtbpihnpakolooaaGreatDoorMW5
import Derived.Test.YtbpihnpakolooaaGreatDoorS6a
namespace Go.Proofs.YtbpihnpakolooaaGreatDoor
open Go Go.RowKit Grp
set_option linter.unusedSimpArgs false
set_option linter.unusedVariables false
theorem neg_ok0 {os vs : List Int} {D : Int} (h : Ok0 os D vs) : Ok0 os D (negL D vs) :=
 ⟨h.l4, h.m2, h.p16, h.d1, h.d2, h.dv, by rw [negL_len]; exact h.len, fun v hv => by
  unfold negL at hv
  obtain ⟨u, _, rfl⟩ := List.mem_map.1 hv
  exact ⟨Int.emod_nonneg _ (by have := h.d1; omega), Int.emod_lt_of_pos _ (by have := h.d1; omega)⟩⟩
theorem ok0_okM {os vs : List Int} {D : Int} (h : Ok0 os D vs) (hn : os ≠ []) : OkM os D vs := ⟨h.g hn, h.d1, h.d2, h.len, h.rng⟩
theorem len2_of {os : List Int} (hm : ∀ m ∈ os, 2 ≤ m ∧ m ≤ 16) (hp : prodL os ≤ 4) : os.length ≤ 2 := by
 match os, hm, hp with
 | [], _, _ => simp
 | [a], _, _ => simp
 | [a, b], _, _ => simp
 | a :: b :: c :: r, hm, hp =>
  exfalso
  have ha := (hm a (by simp)).1
  have hb := (hm b (by simp)).1
  have hc := (hm c (by simp)).1
  have hr : 1 ≤ prodL r := prodL_pos fun m h => by have := (hm m (by simp [h])).1; omega
  have e : prodL (a :: b :: c :: r) = a * (b * (c * prodL r)) := rfl
  have h1 : 2 * 1 ≤ c * prodL r := Int.mul_le_mul hc hr (by omega) (by omega)
  have h2 : 2 * 2 ≤ b * (c * prodL r) := Int.mul_le_mul hb (by omega) (by omega) (by omega)
  have h3 : 2 * 4 ≤ a * (b * (c * prodL r)) := Int.mul_le_mul ha (by omega) (by omega) (by omega)
  omega
theorem hyp2_ok0 : Ok0 [(2 : Nat), (2 : Nat)] (2 : Nat) (hypTo 2 2) := by
 refine ⟨by decide, by decide, by decide, by decide, by decide, by decide, by decide, by decide⟩
set_option maxRecDepth 100000 in
set_option maxHeartbeats 8000000 in
theorem l11Draw_any (w0 w : World) (B S : Nat) (A : Option Addr) (n c lo : Nat) (bs : List Int) (hb : SlB w0 B A n c bs) (hn : n ≤ 1048576) (hs : Src w0 B S A n c lo w) (hBw : B ≤ w.heap.size) :
  Calls Tryz.prog 62 #[.pointer (some ⟨S, 0, none⟩)] w (DrS w0 B S A n c lo w GenM) := by
 have hSw := hs.lt
 go_enter Tryz.func62, Tryz.ntmps62
 obtain ⟨W0, hW0⟩ : ∃ W0, w.alloc (.cells #[.slice none 0 0, .int .i64 0, .slice none 0 0] 26) = W0 := ⟨_, rfl⟩
 have bR : Blk W0 w.heap.size 26 #[.slice none 0 0, .int .i64 0, .slice none 0 0] := by rw [← hW0]; exact Blk.new _ _ _
 have s0 : Src w0 B S A n c lo W0 := by rw [← hW0]; exact hs.alloc _
 have g0 : w.grownBy W0 (some S) := by rw [← hW0]; exact World.grownBy_alloc _ _ _
 have z0 : w.heap.size < W0.heap.size := by rw [← hW0]; simp
 go_wp2_with fail
 clear hW0
 refine (l01Next_any w0 _ B S A n c lo bs hb hn s0 4 ⟨by omega, by omega⟩).mono ?_
 rintro e w1 ⟨x, rfl, ⟨x0, x1, -⟩, s1, g1⟩
 replace x1 := x1 (by omega)
 replace bR := bR.grown g1 (by simp; omega)
 replace g0 := g0.trans g1
 clear s0 g1 z0
 have z1 := bR.lt
 by_cases c0 : x = 0
 ·subst c0
  go_wp2_with fail
  refine (small_any w0 B S A n c bs hb hn n lo (by omega) 4 (by omega) (by omega) _ s1 (by omega)).mono ?_
  rintro e w2 ⟨v1, v2, os, q, vs, rfl, hR, o1, o2, ap, s2, g2⟩
  replace bR := bR.grown g2 (by simp; omega)
  replace g0 := g0.trans g2
  clear s1 g2
  obtain ⟨A1, c1, rfl, -⟩ := o1.sl hR.rng1
  obtain ⟨A2, c2, rfl, -⟩ := o2.sl hR.rng2
  have z2 := bR.lt
  have hlt16 := hR.ok.lt
  have hl4 := hR.ok.l4
  have hp4 : prodL os ≤ 4 := by rcases hR.le with h | h <;> omega
  have hne := hR.ne (by omega)
  have hl2 := len2_of hR.ok.m2 hp4
  obtain ⟨D, rfl⟩ := Int.eq_ofNat_of_zero_le (show 0 ≤ q by have := hR.ok.d1; omega)
  obtain ⟨W3, hW3⟩ : ∃ W3, w2.alloc (.cells #[.slice A1 os.length c1, .int .i64 (D : Int), .slice A2 vs.length c2] 26) = W3 := ⟨_, rfl⟩
  have q1 : Blk W3 w2.heap.size 26 #[.slice A1 os.length c1, .int .i64 (D : Int), .slice A2 vs.length c2] := by rw [← hW3]; exact Blk.new _ _ _
  replace o1 := (o1.alloc (.cells #[.slice A1 os.length c1, .int .i64 (D : Int), .slice A2 vs.length c2] 26)).less (show w.heap.size ≤ _ by omega)
  replace o2 := (o2.alloc (.cells #[.slice A1 os.length c1, .int .i64 (D : Int), .slice A2 vs.length c2] 26)).less (show w.heap.size ≤ _ by omega)
  replace s2 := s2.alloc (.cells #[.slice A1 os.length c1, .int .i64 (D : Int), .slice A2 vs.length c2] 26)
  replace bR := bR.alloc (.cells #[.slice A1 os.length c1, .int .i64 (D : Int), .slice A2 vs.length c2] 26)
  replace g0 := g0.trans (World.grownBy_alloc w2 (.cells #[.slice A1 os.length c1, .int .i64 (D : Int), .slice A2 vs.length c2] 26) (some S))
  have hX3 : w2.heap.size < W3.heap.size := by rw [← hW3]; simp
  obtain ⟨M, hM⟩ : ∃ M, w2.heap.size = M := ⟨_, rfl⟩
  rw [hW3] at o1 o2 s2 bR g0
  have hMw : w.heap.size < M := by omega
  go_upto_region 4 with fail
  rw [hM] at q1 hX3
  clear hW3
  have j0 := q1.cell 0
  have j1 := q1.cell 1
  have j2 := q1.cell 2
  obtain ⟨Aw, cw, hv1, sl1⟩ := o1.sl hR.rng1
  obtain ⟨rfl, rfl⟩ : A1 = Aw ∧ c1 = cw := by injection hv1 with a _ b; exact ⟨a, b⟩
  obtain ⟨Ax, cx, hv2, sl2⟩ := o2.sl hR.rng2
  obtain ⟨rfl, rfl⟩ : A2 = Ax ∧ c2 = cx := by injection hv2 with a _ b; exact ⟨a, b⟩
  clear hv1 hv2
  obtain ⟨qq, ee, DD, e1, e2, hQ⟩ := sumQ (D1 := D) (D2 := D) (Int.ofNat.inj (show Int.ofNat (55440 % D) = Int.ofNat 0 from hR.ok.dv)) (Int.ofNat.inj (show Int.ofNat (55440 % D) = Int.ofNat 0 from hR.ok.dv)) (by have := hR.ok.d1; omega) (by have := hR.ok.d1; omega)
  have hp1 := hR.ok.pos
  have hPs := hide (sum_sml (most := 16) hR.ok (neg_ok0 hR.ok) hQ (by omega) (show prodL os * prodL os ≤ 16 by
   have := Int.mul_le_mul hp4 hp4 (show 0 ≤ prodL os by omega) (by omega)
   omega) (by omega) (fun _ h => hne (List.append_eq_nil_iff.1 h).1))
  have hQH := hide hQ
  clear hQ
  have hSz1 := hide (fun W (h : Below W3.heap.size W3 W) => l10Minus_any W _ _ _ _ _ _ _ _ _ ((sl1.below h).more h.size) ((sl2.below h).more h.size) (ok0_okM hR.ok hne))
  have hl2i : (os.length : Int) ≤ 2 := by omega
  have lm := q1.lt
  have hn1 := neg_ok0 hR.ok
  have hrn : ∀ x ∈ negL (D : Int) vs, i64ok x := fun x hx => by have := hn1.rng x hx; have := hn1.d2; exact ⟨by omega, by omega⟩
  have hr1 := hR.rng1
  have hr2 := hR.rng2
  have hok := hide hR.ok
  have hokn := hide hn1
  clear hR hn1 hp1 hp4 hl4 hlt16 hne
  go_upto_region 5 with fail
  refine wp_region_be [0, 1, 2, 3, 4] 4 W3.heap.size W3 (by kernel_rfl) (by kernel_rfl) (by kernel_rfl) (fun _ _ _ _ _ h => h) (Below.refl _ _) (fun wd hBe => ?_)
  repeat (first | (apply ord_tk rfl (by rfl) (by rfl) (by rfl); (focus (intro wx hSw; have t0 := (hSw.cell (p := ⟨M, 0, none⟩) lm).trans j0; have t1 := (hSw.cell (p := ⟨M, 1, none⟩) lm).trans j1; have t2 := (hSw.cell (p := ⟨M, 2, none⟩) lm).trans j2; go_simp; (try with_reducible rfl))); (try simp only [Act.put, List.setIfInBounds_toArray, List.set_cons_zero, List.set_cons_succ])) | (apply ord_skip rfl (by rfl) (by rfl) (fun _ => hBe); (try simp only [Act.put, List.setIfInBounds_toArray, List.set_cons_zero, List.set_cons_succ])))
  refine ord_do rfl (by rfl) (by rfl) (fun K hK => ?_)
  go_simp
  refine (hSz1.out _ hBe).mono ?_
  rintro e w4 ⟨v3, v4, rfl, o3, o4, ap3, hb4⟩
  obtain ⟨A3, c3, rfl, sl3⟩ := o3.sl hr1
  obtain ⟨A4, c4, rfl, sl4⟩ := o4.sl hrn
  replace hBe := hBe.trans (hb4.mono hBe.size)
  clear hb4 o3 o4 ap3 hSz1
  refine hK.out _ _ (fun _ => hBe) ?_
  (try simp only [Act.put, List.setIfInBounds_toArray, List.set_cons_zero, List.set_cons_succ])
  clear hK K
  refine ord_do rfl (by rfl) (by rfl) (fun K hK => ?_)
  go_simp
  refine (l10Sum_gen _ _ _ _ os D _ _ _ vs _ _ _ os D _ _ _ (negL (D : Int) vs) ((sl1.below hBe).more hBe.size) ((sl2.below hBe).more hBe.size) sl3 sl4 hok.out hokn.out qq ee DD e1 e2 hQH.out).mono ?_
  rintro e w5 ⟨v5, v6, rfl, o5, o6, ap5, hb5⟩
  replace o5 := o5.less (show w.heap.size ≤ _ by have := hBe.size; omega)
  replace o6 := o6.less (show w.heap.size ≤ _ by have := hBe.size; omega)
  replace hBe := hBe.trans (hb5.mono hBe.size)
  clear hb5 sl3 sl4 sl1 sl2
  refine hK.out _ _ (fun _ => hBe) ?_
  (try simp only [Act.put, List.setIfInBounds_toArray, List.set_cons_zero, List.set_cons_succ])
  clear hK K
  have hz3 := bR.lt
  replace bR := bR.all hBe
  have sf := s2.all hBe (by omega)
  have gf := grown_below g0 (hBe.mono (by omega))
  clear hBe s2 g0 o1 o2 q1 j0 j1 j2
  have hres := bR
  have r0 := hres.cell 0
  have r1 := hres.cell 1
  have r2 := hres.cell 2
  have f0 := hres.frozen 0
  have f1 := hres.frozen 1
  have f2 := hres.frozen 2
  obtain ⟨A5, n5, c5, rfl⟩ := own_val' o5
  obtain ⟨A6, n6, c6, rfl⟩ := own_val' o6
  refine ord_do rfl (by rfl) (by rfl) (fun K hK => ?_)
  go_simp
  refine hK.out _ _ (fun h => absurd h (by omega)) ?_
  (try simp only [Act.put, List.setIfInBounds_toArray, List.set_cons_zero, List.set_cons_succ])
  clear hK K
  refine ord_nil ?_
  go_wp2_with fail
  have hb3 := put3_blk (x := .slice A5 n5 c5) (y := .int .i64 (DD : Int)) (z := .slice A6 n6 c6) hres
  have q0 := hb3.cell 0
  have q1 := hb3.cell 1
  have q2 := hb3.cell 2
  unfold put3 at q0 q1 q2
  refine bodyPost_ret (v := .agg #[.slice A5 n5 c5, .int .i64 (DD : Int), .slice A6 n6 c6]) (by simp [results, Tryz.results62, go_sem, q0, q1, q2]) rfl ?_
  exact DrM.s (R := Sml 16) (fun _ _ _ h => ⟨16, by omega, h⟩) (drM_fin rfl hSw hBw hPs.out bR o5 o6 ap5 sf (Nat.le_refl _) (.inr rfl) gf)
 by_cases c1x : x = 1
 ·subst c1x
  clear c0
  go_wp2_with fail
  refine (l10Hyperbolic_any _ 2 (by omega) (by omega)).mono ?_
  rintro e w2 ⟨v3, v4, rfl, o3, o4, ap3, hb4⟩
  have hh := hide (show Ok0 [((2 : Nat) : Int), ((2 : Nat) : Int)] ((2 : Nat) : Int) (hypTo ((2 : Nat) : Int) 2) from hyp2_ok0)
  have hr3 : ∀ x ∈ [((2 : Nat) : Int), ((2 : Nat) : Int)], i64ok x := fun x hx => by have := hyp2_ok0.m2 x hx; exact ⟨by omega, by omega⟩
  have hr4 : ∀ x ∈ hypTo ((2 : Nat) : Int) 2, i64ok x := fun x hx => by have := hyp2_ok0.rng x hx; exact ⟨by omega, by omega⟩
  replace bR := bR.all hb4
  replace s1 := (s1.e.all hb4 (by omega)).any
  replace g0 := grown_below g0 (hb4.mono (by omega))
  replace o3 := o3.less (show w.heap.size ≤ _ by omega)
  replace o4 := o4.less (show w.heap.size ≤ _ by omega)
  have z2 := bR.lt
  clear hb4 ap3
  obtain ⟨A3, c3, rfl, -⟩ := o3.sl hr3
  obtain ⟨A4, c4, rfl, -⟩ := o4.sl hr4
  obtain ⟨l3, hl3⟩ : ∃ l, [((2 : Nat) : Int), ((2 : Nat) : Int)] = l := ⟨_, rfl⟩
  obtain ⟨l4, hl4⟩ : ∃ l, hypTo ((2 : Nat) : Int) 2 = l := ⟨_, rfl⟩
  rw [hl3] at o3 hh hr3 ⊢
  rw [hl4] at o4 hh hr4 ⊢
  obtain ⟨D3, hD3⟩ : ∃ D : Nat, D = 2 := ⟨2, rfl⟩
  rw [show ((2 : Nat) : Int) = (D3 : Int) by rw [hD3]] at hh ⊢
  have hP4 : prodL l3 = 4 := by rw [← hl3]; decide
  have hL3 := hide (show l3.length = 2 by rw [← hl3]; decide)
  have hN3 : l3 ≠ [] := by rw [← hl3]; decide
  have hd3 : 55440 % D3 = 0 := by subst hD3; decide
  have hd31 : 1 ≤ D3 := by omega
  clear hD3
  have hH3 := hide hl3
  have hH4 := hide hl4
  clear hl3 hl4
  go_wp2_with fail
  refine (small_any w0 B S A n c bs hb hn n lo (by omega) 4 (by omega) (by omega) _ s1 (by omega)).mono ?_
  rintro e w3 ⟨v1, v2, os, q, vs, rfl, hR, o1, o2, ap, s2, g2⟩
  replace o3 := o3.far g2 (s1.e.ne o3)
  replace o4 := o4.far g2 (s1.e.ne o4)
  replace bR := bR.grown g2 (by simp; omega)
  replace g0 := g0.trans g2
  clear s1 g2
  replace o1 := o1.less (show w.heap.size ≤ _ by omega)
  replace o2 := o2.less (show w.heap.size ≤ _ by omega)
  obtain ⟨A1, c1, rfl, sl1⟩ := o1.sl hR.rng1
  obtain ⟨A2, c2, rfl, sl2⟩ := o2.sl hR.rng2
  obtain ⟨Aw, cw, hv1, sl3⟩ := o3.sl hr3
  obtain ⟨rfl, rfl⟩ : A3 = Aw ∧ c3 = cw := by injection hv1 with a _ b; exact ⟨a, b⟩
  obtain ⟨Ax, cx, hv2, sl4⟩ := o4.sl hr4
  obtain ⟨rfl, rfl⟩ : A4 = Ax ∧ c4 = cx := by injection hv2 with a _ b; exact ⟨a, b⟩
  clear hv1 hv2
  have hlt16 := hR.ok.lt
  have hp4 : prodL os ≤ 4 := by rcases hR.le with h | h <;> omega
  have hl2 := len2_of hR.ok.m2 hp4
  have hp1 := hR.ok.pos
  obtain ⟨D, rfl⟩ := Int.eq_ofNat_of_zero_le (show 0 ≤ q by have := hR.ok.d1; omega)
  obtain ⟨qq, ee, DD, e1, e2, hQ⟩ := sumQ (D1 := D3) (D2 := D) hd3 (Int.ofNat.inj (show Int.ofNat (55440 % D) = Int.ofNat 0 from hR.ok.dv)) (by omega) (by have := hR.ok.d1; omega)
  have hPs := hide (sum_sml (most := 16) hh.out hR.ok hQ (by have := hL3.out; omega) (show prodL l3 * prodL os ≤ 16 by rw [hP4]; omega) (by omega) (fun _ h => hN3 (List.append_eq_nil_iff.1 h).1))
  have z3 := bR.lt
  clear hN3 hP4 hp1 hp4 hlt16 hL3
  go_wp2_with fail
  refine (l10Sum_gen _ _ _ _ l3 D3 _ _ _ l4 _ _ _ os D _ _ _ vs sl3 sl4 sl1 sl2 hh.out hR.ok qq ee DD e1 e2 hQ).mono ?_
  rintro e w5 ⟨v5, v6, rfl, o5, o6, ap5, hb5⟩
  replace o5 := o5.less (show w.heap.size ≤ _ by omega)
  replace o6 := o6.less (show w.heap.size ≤ _ by omega)
  have sf := s2.all hb5 (by omega)
  have gf := grown_below g0 (hb5.mono (by omega))
  replace bR := bR.all hb5
  clear hb5 sl3 sl4 sl1 sl2 s2 g0 o1 o2 o3 o4
  have hres := bR
  have r0 := hres.cell 0
  have r1 := hres.cell 1
  have r2 := hres.cell 2
  have f0 := hres.frozen 0
  have f1 := hres.frozen 1
  have f2 := hres.frozen 2
  obtain ⟨A5, n5, c5, rfl⟩ := own_val' o5
  obtain ⟨A6, n6, c6, rfl⟩ := own_val' o6
  go_wp2_with fail
  have hb3 := put3_blk (x := .slice A5 n5 c5) (y := .int .i64 (DD : Int)) (z := .slice A6 n6 c6) hres
  have q0 := hb3.cell 0
  have q1 := hb3.cell 1
  have q2 := hb3.cell 2
  unfold put3 at q0 q1 q2
  refine bodyPost_ret (v := .agg #[.slice A5 n5 c5, .int .i64 (DD : Int), .slice A6 n6 c6]) (by simp [results, Tryz.results62, go_sem, q0, q1, q2]) rfl ?_
  exact DrM.s (R := Sml 16) (fun _ _ _ h => ⟨16, by omega, h⟩) (drM_fin rfl hSw hBw hPs.out bR o5 o6 ap5 sf (Nat.le_refl _) (.inr rfl) gf)
 ·go_wp2_with fail
  refine (l10Spoil_any w0 _ B S A n c lo bs hb hn s1 (by omega)).mono ?_
  rintro e w2 ⟨A1, c1, A2, c2, os, q, vs, rfl, hR, t1, t2, ⟨b1, b2⟩, s2, g2⟩
  have hz1 := bR.lt
  replace bR := bR.grown g2 (by simp; omega)
  have gf := g0.trans g2
  clear s1 g0 g2
  have hres := bR
  have r0 := hres.cell 0
  have r1 := hres.cell 1
  have r2 := hres.cell 2
  have f0 := hres.frozen 0
  have f1 := hres.frozen 1
  have f2 := hres.frozen 2
  go_wp2_with fail
  have hb3 := put3_blk (x := .slice A1 os.length c1) (y := .int .i64 q) (z := .slice A2 vs.length c2) hres
  have q0 := hb3.cell 0
  have q1 := hb3.cell 1
  have q2 := hb3.cell 2
  unfold put3 at q0 q1 q2
  refine bodyPost_ret (v := .agg #[.slice A1 os.length c1, .int .i64 q, .slice A2 vs.length c2]) (by simp [results, Tryz.results62, go_sem, q0, q1, q2]) rfl ?_
  have m1 : SlS w2 w.heap.size A1 os.length c1 os := ⟨t1.sl, fun b off sp e hn => by have := b1 b off sp e hn; omega⟩
  have m2 : SlS w2 w.heap.size A2 vs.length c2 vs := ⟨t2.sl, fun b off sp e hn => by have := b2 b off sp e hn; omega⟩
  exact ⟨A1, c1, A2, c2, os, q, vs, rfl, hR, slS_put3 t1 m1, slS_put3 t2 m2, ⟨fun b off sp e hn => by have := b1 b off sp e hn; omega, fun b off sp e hn => by have := b2 b off sp e hn; omega⟩, (s2.e.put3 (by omega) (by omega) _ _ _).any, grown_put3 gf (by omega) _ _ _⟩
theorem Src.all {w0 w w' : World} {B S : Nat} {A : Option Addr} {n c lo : Nat} (hs : Src w0 B S A n c lo w) (hb : Below w.heap.size w w') (hB : B ≤ w.heap.size) : Src w0 B S A n c lo w' := (hs.e.all hb hB).any
/-- It returned a metric and a list, which can be read. -/
def DSb (w : World) (e : Ending) (w' : World) : Prop := ∃ A1 c1 A2 c2 os q vs L lc xs, e = .returned (.tuple #[.agg #[.slice A1 (List.length os) c1, .int .i64 q, .slice A2 (List.length vs) c2], .slice L (List.length xs) lc]) ∧ GenM os q vs ∧ xs.length ≤ 100 ∧ Sl w' w'.heap.size A1 os.length c1 os ∧ Sl w' w'.heap.size A2 vs.length c2 vs ∧ Sl w' w'.heap.size L xs.length lc xs ∧ (LoB w.heap.size A1 os.length ∧ LoB w.heap.size A2 vs.length ∧ LoB w.heap.size L xs.length) ∧ (∀ x ∈ xs, i64ok x) ∧ Below w.heap.size w w'
theorem SlS.all {w w' : World} {S : Nat} {A : Option Addr} {n c : Nat} {xs : List Int} (h : SlS w S A n c xs) (hb : Below w.heap.size w w') : SlS w' S A n c xs := ⟨(h.sl.below hb).more hb.size, h.ne⟩
/-- What stands while the list is drawn: R is the result's block, M the metric's. -/
structure LsS (w W0 : World) (S : Nat) (A : Option Addr) (n c M R : Nat) (A1 : Option Addr) (c1 : Nat) (A2 : Option Addr) (c2 : Nat) (os : List Int) (q : Int) (vs : List Int) (wx : World) : Prop where
 res : Blk wx R 26 #[.slice none 0 0, .int .i64 0, .slice none 0 0]
 m : Blk wx M 26 #[.slice A1 os.length c1, .int .i64 q, .slice A2 vs.length c2]
 s1 : SlS wx S A1 os.length c1 os
 s2 : SlS wx S A2 vs.length c2 vs
 b1 : LoB (R + 1) A1 os.length
 b2 : LoB (R + 1) A2 vs.length
 src : Src W0 W0.heap.size S A n c 0 wx
 fr : Below w.heap.size w wx
section
variable {w W0 wx wy : World} {S : Nat} {A : Option Addr} {n c M R : Nat} {A1 A2 : Option Addr} {c1 c2 : Nat} {os vs : List Int} {q : Int}
theorem LsS.next (h : LsS w W0 S A n c M R A1 c1 A2 c2 os q vs wx) (hM : M ≠ S) (hR : R ≠ S) (hS : w.heap.size ≤ S) (hs : Src W0 W0.heap.size S A n c 0 wy) (g : wx.grownBy wy (some S)) : LsS w W0 S A n c M R A1 c1 A2 c2 os q vs wy :=
 ⟨h.res.grown g (by simp; omega), h.m.grown g (by simp; omega), h.s1.grown g, h.s2.grown g, h.b1, h.b2, hs, h.fr.trans (Below.grown (Below.refl _ _) g h.fr.size (fun k hk => by injection hk with hk; omega))⟩
theorem LsS.all (h : LsS w W0 S A n c M R A1 c1 A2 c2 os q vs wx) (hb : Below wx.heap.size wx wy) (hB : W0.heap.size ≤ wx.heap.size) : LsS w W0 S A n c M R A1 c1 A2 c2 os q vs wy :=
 ⟨h.res.all hb, h.m.all hb, h.s1.all hb, h.s2.all hb, h.b1, h.b2, h.src.all hb hB, h.fr.trans (hb.mono h.fr.size)⟩
theorem LsS.fin (h : LsS w W0 S A n c M w.heap.size A1 c1 A2 c2 os q vs wx) (hG : GenM os q vs) {L : Option Addr} {lc : Nat} {xs : List Int} (hx : xs.length ≤ 100) (hl : Sl wx wx.heap.size L xs.length lc xs) (hL : LoB (w.heap.size + 1) L xs.length) {x y z : Value} :
  DSb w (.returned (.tuple #[.agg #[.slice A1 (List.length os) c1, .int .i64 q, .slice A2 (List.length vs) c2], .slice L (List.length xs) lc])) (put3 wx w.heap.size x y z) := by
 have hle : w.heap.size < w.heap.size + 1 := Nat.lt_succ_self _
 refine ⟨A1, c1, A2, c2, os, q, vs, L, lc, xs, rfl, hG, hx, slS_out h.s1 h.b1 hle, slS_out h.s2 h.b2 hle, ?_, ⟨(h.b1.less (Nat.le_succ _)), (h.b2.less (Nat.le_succ _)), (hL.less (Nat.le_succ _))⟩, hl.rng, put3_below h.fr (Nat.le_refl _)⟩
 by_cases h0 : 0 < xs.length
 ·have hS : SlS wx w.heap.size L xs.length lc xs := ⟨hl, fun b off sp e hn => by have := hL b off sp e hn; omega⟩
  exact slS_out hS hL hle
 ·refine ⟨hl.len, hl.cap, hl.rng, fun h => absurd h h0, hl.nil_⟩
end
/-- It returned a metric, which can be read. -/
def DMo (w : World) (e : Ending) (w' : World) : Prop := ∃ A1 c1 A2 c2 os q vs, e = .returned (.agg #[.slice A1 (List.length os) c1, .int .i64 q, .slice A2 (List.length vs) c2]) ∧ GenM os q vs ∧ Sl w' w'.heap.size A1 os.length c1 os ∧ Sl w' w'.heap.size A2 vs.length c2 vs ∧ Below w.heap.size w w'
theorem LoB.s {w : World} {L S : Nat} {A : Option Addr} {n c : Nat} {xs : List Int} (h : LoB L A n) (hs : Sl w w.heap.size A n c xs) (hL : S < L) : SlS w S A n c xs := ⟨hs, fun b off sp e hn => by have := h b off sp e hn; omega⟩
set_option maxRecDepth 100000 in
set_option maxHeartbeats 4000000 in
theorem drawGreatest_any (w : World) (A : Option Addr) (n c : Nat) (bs : List Int) (hb : SlB w w.heap.size A n c bs) (hn : n ≤ 4096) : Calls Tryz.prog 24 #[.slice A n c] w (DMo w) := by
 go_enter Tryz.func24, Tryz.ntmps24
 obtain ⟨W0, hW0⟩ : ∃ W0, w.alloc (.cells #[.slice none 0 0, .int .i64 0, .slice none 0 0] 26) = W0 := ⟨_, rfl⟩
 have bR : Blk W0 w.heap.size 26 #[.slice none 0 0, .int .i64 0, .slice none 0 0] := by rw [← hW0]; exact Blk.new _ _ _
 have k0 : Below w.heap.size w W0 := by rw [← hW0]; exact (by repeat (first | assumption | exact Below.refl _ _ | apply below_drewN | apply Below.drew | apply Below.alloc | apply Below.setCell | omega | (focus (simp; done)) | (focus (simp; omega))))
 have z0 : w.heap.size < W0.heap.size := by rw [← hW0]; simp
 have hb0 : SlB W0 W0.heap.size A n c bs := ⟨hb.len, hb.cap, hb.rng, fun h => by
  obtain ⟨b, off, e, hlt, hc⟩ := hb.at_ h
  exact ⟨b, off, e, by omega, fun k hk => (k0.cell (p := ⟨b, off + k, none⟩) hlt).trans (hc k hk)⟩⟩
 go_wp2_with fail
 clear hW0
 refine (l01From_any W0 A n c bs hb0 hn).mono ?_
 rintro e w1 ⟨S, rfl, s1⟩
 have bR1 := bR.below s1.below z0
 have z1 := s1.below.size
 have hSz := s1.hS
 go_wp2_with fail
 refine (l11Draw_any W0 w1 W0.heap.size S A n c 0 bs hb0 (by omega) s1 z1).mono ?_
 rintro e w2 ⟨A1, c1, A2, c2, os, q, vs, rfl, hG, sl1, sl2, ⟨lb1, lb2⟩, s2, g2⟩
 replace bR1 := bR1.grown g2 (by simp; omega)
 have hres := bR1
 have r0 := hres.cell 0
 have r1 := hres.cell 1
 have r2 := hres.cell 2
 have f0 := hres.frozen 0
 have f1 := hres.frozen 1
 have f2 := hres.frozen 2
 go_wp2_with fail
 have hb3 := put3_blk (x := .slice A1 os.length c1) (y := .int .i64 q) (z := .slice A2 vs.length c2) hres
 have q0 := hb3.cell 0
 have q1 := hb3.cell 1
 have q2 := hb3.cell 2
 unfold put3 at q0 q1 q2
 refine bodyPost_ret (v := .agg #[.slice A1 os.length c1, .int .i64 q, .slice A2 vs.length c2]) (by simp [results, Tryz.results24, go_sem, q0, q1, q2]) rfl ?_
 exact ⟨A1, c1, A2, c2, os, q, vs, rfl, hG, slS_out sl1 lb1 (by omega), slS_out sl2 lb2 (by omega), put3_below (k0.trans (s2.below.mono (by omega))) (Nat.le_refl _)⟩
/-- What stood in W3, but for the source, stands. -/
structure LfS (W0 W3 : World) (S : Nat) (A : Option Addr) (n c : Nat) (wx : World) : Prop where
 kp : ∀ b, b < W3.heap.size → b ≠ S → wx.heap[b]? = W3.heap[b]?
 sz : W3.heap.size ≤ wx.heap.size
 src : Src W0 W0.heap.size S A n c 0 wx
section
variable {w W0 W3 wx wy : World} {S : Nat} {A : Option Addr} {n c M R : Nat} {A1 A2 : Option Addr} {c1 c2 : Nat} {os vs : List Int} {q : Int}
theorem LfS.next (h : LfS W0 W3 S A n c wx) (hs : Src W0 W0.heap.size S A n c 0 wy) (g : wx.grownBy wy (some S)) : LfS W0 W3 S A n c wy :=
 ⟨fun b hb hne => (g.block b (Nat.lt_of_lt_of_le hb h.sz) (fun e => hne (Option.some.inj e))).trans (h.kp b hb hne), Nat.le_trans h.sz g.size, hs⟩
theorem LfS.low (h : LfS W0 W3 S A n c wx) (hs : Src W0 W0.heap.size S A n c 0 wy) (g : Below W3.heap.size wx wy) : LfS W0 W3 S A n c wy :=
 ⟨fun b hb hne => (g.block b hb).trans (h.kp b hb hne), Nat.le_trans h.sz g.size, hs⟩
theorem LfS.alloc (h : LfS W0 W3 S A n c wx) (o : Obj) : LfS W0 W3 S A n c (wx.alloc o) :=
 h.low (h.src.alloc o) ((Below.refl _ _).alloc h.sz o)
theorem LfS.blk (h : LfS W0 W3 S A n c wx) {g : Nat} {t : TypeId} {cs : Array Value} (hb : Blk W3 g t cs) (hne : g ≠ S) : Blk wx g t cs := (h.kp g hb.lt hne).trans hb
theorem LfS.sls (h : LfS W0 W3 S A n c wx) {A1 : Option Addr} {n1 c1 : Nat} {xs : List Int} (hs : SlS W3 S A1 n1 c1 xs) : SlS wx S A1 n1 c1 xs := by
 refine ⟨⟨hs.sl.len, hs.sl.cap, hs.sl.rng, fun hn => ?_, hs.sl.nil_⟩, hs.ne⟩
 obtain ⟨b, off, e, hb, hc⟩ := hs.sl.at_ hn
 have hk := h.kp b hb (hs.ne b off none e hn)
 refine ⟨b, off, e, Nat.lt_of_lt_of_le hb h.sz, fun k hkn => ?_⟩
 rw [← hc k hkn]
 unfold World.cell?
 rw [hk]
theorem LfS.to (h : LfS W0 W3 S A n c wx) (k0 : Below w.heap.size w W0) (hM : M ≠ S) (hR : R ≠ S) (hL : LsS w W0 S A n c M R A1 c1 A2 c2 os q vs W3) : LsS w W0 S A n c M R A1 c1 A2 c2 os q vs wx :=
 ⟨h.blk hL.res hR, h.blk hL.m hM, h.sls hL.s1, h.sls hL.s2, hL.b1, hL.b2, h.src, k0.trans (h.src.below.mono k0.size)⟩
end
end Go.Proofs.YtbpihnpakolooaaGreatDoor
