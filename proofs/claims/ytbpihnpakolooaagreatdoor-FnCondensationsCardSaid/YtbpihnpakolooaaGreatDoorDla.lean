
/- The walk of l11Draw: a metric is drawn, often with isotropic elements. The walk of l11Sub: a metric and a list, often a subgroup, are drawn. The draws of a metric and a list: DrawOrthogonalSubgroup, DrawCondenseMetric, DrawSubgroupMasks, DrawGreatestIsotropic. The draw of a metric and a list of elements: DrawSubgroupFrom. -/
import Derived.Test.YtbpihnpakolooaaGreatDoorDva
import Derived.Test.YtbpihnpakolooaaGreatDoorMa
import Derived.Test.YtbpihnpakolooaaGreatDoorW3a
import Derived.Deep.DeepCutAuto
import Derived.Test.YtbpihnpakolooaaGreatDoorMW5
import Derived.Test.YtbpihnpakolooaaGreatDoorS6a
namespace Go.Proofs.YtbpihnpakolooaaGreatDoor
open Go Go.RowKit Grp
set_option linter.unusedSimpArgs false
set_option linter.unusedVariables false
theorem neg_ok0 {os vs : List Int} {D : Int} (h : Ok0 os D vs) : Ok0 os D (negL D vs) :=
 ⟨h.l4, h.m2, h.p16, h.d1, h.d2, h.dv, by rw [negL_len]; exact h.len, fun v hv => by
  unfold negL at hv
  obtain ⟨u, _, rfl⟩ := List.mem_map.1 hv
  exact ⟨Int.emod_nonneg _ (by have := h.d1; omega), Int.emod_lt_of_pos _ (by have := h.d1; omega)⟩⟩
theorem ok0_okM {os vs : List Int} {D : Int} (h : Ok0 os D vs) (hn : os ≠ []) : OkM os D vs := ⟨h.g hn, h.d1, h.d2, h.len, h.rng⟩
theorem len2_of {os : List Int} (hm : ∀ m ∈ os, 2 ≤ m ∧ m ≤ 16) (hp : prodL os ≤ 4) : os.length ≤ 2 := by
 match os, hm, hp with
 | [], _, _ => simp
 | [a], _, _ => simp
 | [a, b], _, _ => simp
 | a :: b :: c :: r, hm, hp =>
  exfalso
  have ha := (hm a (by simp)).1
  have hb := (hm b (by simp)).1
  have hc := (hm c (by simp)).1
  have hr : 1 ≤ prodL r := prodL_pos fun m h => by have := (hm m (by simp [h])).1; omega
  have e : prodL (a :: b :: c :: r) = a * (b * (c * prodL r)) := rfl
  have h1 : 2 * 1 ≤ c * prodL r := Int.mul_le_mul hc hr (by omega) (by omega)
  have h2 : 2 * 2 ≤ b * (c * prodL r) := Int.mul_le_mul hb (by omega) (by omega) (by omega)
  have h3 : 2 * 4 ≤ a * (b * (c * prodL r)) := Int.mul_le_mul ha (by omega) (by omega) (by omega)
  omega
theorem hyp2_ok0 : Ok0 [(2 : Nat), (2 : Nat)] (2 : Nat) (hypTo 2 2) := by
 refine ⟨by decide, by decide, by decide, by decide, by decide, by decide, by decide, by decide⟩
set_option maxRecDepth 100000 in
set_option maxHeartbeats 8000000 in
theorem l11Draw_any (w0 w : World) (B S : Nat) (A : Option Addr) (n c lo : Nat) (bs : List Int) (hb : SlB w0 B A n c bs) (hn : n ≤ 1048576) (hs : Src w0 B S A n c lo w) (hBw : B ≤ w.heap.size) :
  Calls Tryz.prog 62 #[.pointer (some ⟨S, 0, none⟩)] w (DrS w0 B S A n c lo w GenM) := by
 have hSw := hs.lt
 go_enter Tryz.func62, Tryz.ntmps62
 obtain ⟨W0, hW0⟩ : ∃ W0, w.alloc (.cells #[.slice none 0 0, .int .i64 0, .slice none 0 0] 26) = W0 := ⟨_, rfl⟩
 have bR : Blk W0 w.heap.size 26 #[.slice none 0 0, .int .i64 0, .slice none 0 0] := by rw [← hW0]; exact Blk.new _ _ _
 have s0 : Src w0 B S A n c lo W0 := by rw [← hW0]; exact hs.alloc _
 have g0 : w.grownBy W0 (some S) := by rw [← hW0]; exact World.grownBy_alloc _ _ _
 have z0 : w.heap.size < W0.heap.size := by rw [← hW0]; simp
 go_wp2_with fail
 clear hW0
 refine (l01Next_any w0 _ B S A n c lo bs hb hn s0 4 ⟨by omega, by omega⟩).mono ?_
 rintro e w1 ⟨x, rfl, ⟨x0, x1, -⟩, s1, g1⟩
 replace x1 := x1 (by omega)
 replace bR := bR.grown g1 (by simp; omega)
 replace g0 := g0.trans g1
 clear s0 g1 z0
 have z1 := bR.lt
 by_cases c0 : x = 0
 ·subst c0
  go_wp2_with fail
  refine (small_any w0 B S A n c bs hb hn n lo (by omega) 4 (by omega) (by omega) _ s1 (by omega)).mono ?_
  rintro e w2 ⟨v1, v2, os, q, vs, rfl, hR, o1, o2, ap, s2, g2⟩
  replace bR := bR.grown g2 (by simp; omega)
  replace g0 := g0.trans g2
  clear s1 g2
  obtain ⟨A1, c1, rfl, -⟩ := o1.sl hR.rng1
  obtain ⟨A2, c2, rfl, -⟩ := o2.sl hR.rng2
  have z2 := bR.lt
  have hlt16 := hR.ok.lt
  have hl4 := hR.ok.l4
  have hp4 : prodL os ≤ 4 := by rcases hR.le with h | h <;> omega
  have hne := hR.ne (by omega)
  have hl2 := len2_of hR.ok.m2 hp4
  obtain ⟨D, rfl⟩ := Int.eq_ofNat_of_zero_le (show 0 ≤ q by have := hR.ok.d1; omega)
  obtain ⟨W3, hW3⟩ : ∃ W3, w2.alloc (.cells #[.slice A1 os.length c1, .int .i64 (D : Int), .slice A2 vs.length c2] 26) = W3 := ⟨_, rfl⟩
  have q1 : Blk W3 w2.heap.size 26 #[.slice A1 os.length c1, .int .i64 (D : Int), .slice A2 vs.length c2] := by rw [← hW3]; exact Blk.new _ _ _
  replace o1 := (o1.alloc (.cells #[.slice A1 os.length c1, .int .i64 (D : Int), .slice A2 vs.length c2] 26)).less (show w.heap.size ≤ _ by omega)
  replace o2 := (o2.alloc (.cells #[.slice A1 os.length c1, .int .i64 (D : Int), .slice A2 vs.length c2] 26)).less (show w.heap.size ≤ _ by omega)
  replace s2 := s2.alloc (.cells #[.slice A1 os.length c1, .int .i64 (D : Int), .slice A2 vs.length c2] 26)
  replace bR := bR.alloc (.cells #[.slice A1 os.length c1, .int .i64 (D : Int), .slice A2 vs.length c2] 26)
  replace g0 := g0.trans (World.grownBy_alloc w2 (.cells #[.slice A1 os.length c1, .int .i64 (D : Int), .slice A2 vs.length c2] 26) (some S))
  have hX3 : w2.heap.size < W3.heap.size := by rw [← hW3]; simp
  obtain ⟨M, hM⟩ : ∃ M, w2.heap.size = M := ⟨_, rfl⟩
  rw [hW3] at o1 o2 s2 bR g0
  have hMw : w.heap.size < M := by omega
  go_upto_region 4 with fail
  rw [hM] at q1 hX3
  clear hW3
  have j0 := q1.cell 0
  have j1 := q1.cell 1
  have j2 := q1.cell 2
  obtain ⟨Aw, cw, hv1, sl1⟩ := o1.sl hR.rng1
  obtain ⟨rfl, rfl⟩ : A1 = Aw ∧ c1 = cw := by injection hv1 with a _ b; exact ⟨a, b⟩
  obtain ⟨Ax, cx, hv2, sl2⟩ := o2.sl hR.rng2
  obtain ⟨rfl, rfl⟩ : A2 = Ax ∧ c2 = cx := by injection hv2 with a _ b; exact ⟨a, b⟩
  clear hv1 hv2
  obtain ⟨qq, ee, DD, e1, e2, hQ⟩ := sumQ (D1 := D) (D2 := D) (Int.ofNat.inj (show Int.ofNat (55440 % D) = Int.ofNat 0 from hR.ok.dv)) (Int.ofNat.inj (show Int.ofNat (55440 % D) = Int.ofNat 0 from hR.ok.dv)) (by have := hR.ok.d1; omega) (by have := hR.ok.d1; omega)
  have hp1 := hR.ok.pos
  have hPs := hide (sum_sml (most := 16) hR.ok (neg_ok0 hR.ok) hQ (by omega) (show prodL os * prodL os ≤ 16 by
   have := Int.mul_le_mul hp4 hp4 (show 0 ≤ prodL os by omega) (by omega)
   omega) (by omega) (fun _ h => hne (List.append_eq_nil_iff.1 h).1))
  have hQH := hide hQ
  clear hQ
  have hSz1 := hide (fun W (h : Below W3.heap.size W3 W) => l10Minus_any W _ _ _ _ _ _ _ _ _ ((sl1.below h).more h.size) ((sl2.below h).more h.size) (ok0_okM hR.ok hne))
  have hl2i : (os.length : Int) ≤ 2 := by omega
  have lm := q1.lt
  have hn1 := neg_ok0 hR.ok
  have hrn : ∀ x ∈ negL (D : Int) vs, i64ok x := fun x hx => by have := hn1.rng x hx; have := hn1.d2; exact ⟨by omega, by omega⟩
  have hr1 := hR.rng1
  have hr2 := hR.rng2
  have hok := hide hR.ok
  have hokn := hide hn1
  clear hR hn1 hp1 hp4 hl4 hlt16 hne
  go_upto_region 5 with fail
  refine wp_region_be [0, 1, 2, 3, 4] 4 W3.heap.size W3 (by kernel_rfl) (by kernel_rfl) (by kernel_rfl) (fun _ _ _ _ _ h => h) (Below.refl _ _) (fun wd hBe => ?_)
  repeat (first | (apply ord_tk rfl (by rfl) (by rfl) (by rfl); (focus (intro wx hSw; have t0 := (hSw.cell (p := ⟨M, 0, none⟩) lm).trans j0; have t1 := (hSw.cell (p := ⟨M, 1, none⟩) lm).trans j1; have t2 := (hSw.cell (p := ⟨M, 2, none⟩) lm).trans j2; go_simp; (try with_reducible rfl))); (try simp only [Act.put, List.setIfInBounds_toArray, List.set_cons_zero, List.set_cons_succ])) | (apply ord_skip rfl (by rfl) (by rfl) (fun _ => hBe); (try simp only [Act.put, List.setIfInBounds_toArray, List.set_cons_zero, List.set_cons_succ])))
  refine ord_do rfl (by rfl) (by rfl) (fun K hK => ?_)
  go_simp
  refine (hSz1.out _ hBe).mono ?_
  rintro e w4 ⟨v3, v4, rfl, o3, o4, ap3, hb4⟩
  obtain ⟨A3, c3, rfl, sl3⟩ := o3.sl hr1
  obtain ⟨A4, c4, rfl, sl4⟩ := o4.sl hrn
  replace hBe := hBe.trans (hb4.mono hBe.size)
  clear hb4 o3 o4 ap3 hSz1
  refine hK.out _ _ (fun _ => hBe) ?_
  (try simp only [Act.put, List.setIfInBounds_toArray, List.set_cons_zero, List.set_cons_succ])
  clear hK K
  refine ord_do rfl (by rfl) (by rfl) (fun K hK => ?_)
  go_simp
  refine (l10Sum_gen _ _ _ _ os D _ _ _ vs _ _ _ os D _ _ _ (negL (D : Int) vs) ((sl1.below hBe).more hBe.size) ((sl2.below hBe).more hBe.size) sl3 sl4 hok.out hokn.out qq ee DD e1 e2 hQH.out).mono ?_
  rintro e w5 ⟨v5, v6, rfl, o5, o6, ap5, hb5⟩
  replace o5 := o5.less (show w.heap.size ≤ _ by have := hBe.size; omega)
  replace o6 := o6.less (show w.heap.size ≤ _ by have := hBe.size; omega)
  replace hBe := hBe.trans (hb5.mono hBe.size)
  clear hb5 sl3 sl4 sl1 sl2
  refine hK.out _ _ (fun _ => hBe) ?_
  (try simp only [Act.put, List.setIfInBounds_toArray, List.set_cons_zero, List.set_cons_succ])
  clear hK K
  have hz3 := bR.lt
  replace bR := bR.all hBe
  have sf := s2.all hBe (by omega)
  have gf := grown_below g0 (hBe.mono (by omega))
  clear hBe s2 g0 o1 o2 q1 j0 j1 j2
  have hres := bR
  have r0 := hres.cell 0
  have r1 := hres.cell 1
  have r2 := hres.cell 2
  have f0 := hres.frozen 0
  have f1 := hres.frozen 1
  have f2 := hres.frozen 2
  obtain ⟨A5, n5, c5, rfl⟩ := own_val' o5
  obtain ⟨A6, n6, c6, rfl⟩ := own_val' o6
  refine ord_do rfl (by rfl) (by rfl) (fun K hK => ?_)
  go_simp
  refine hK.out _ _ (fun h => absurd h (by omega)) ?_
  (try simp only [Act.put, List.setIfInBounds_toArray, List.set_cons_zero, List.set_cons_succ])
  clear hK K
  refine ord_nil ?_
  go_wp2_with fail
  have hb3 := put3_blk (x := .slice A5 n5 c5) (y := .int .i64 (DD : Int)) (z := .slice A6 n6 c6) hres
  have q0 := hb3.cell 0
  have q1 := hb3.cell 1
  have q2 := hb3.cell 2
  unfold put3 at q0 q1 q2
  refine bodyPost_ret (v := .agg #[.slice A5 n5 c5, .int .i64 (DD : Int), .slice A6 n6 c6]) (by simp [results, Tryz.results62, go_sem, q0, q1, q2]) rfl ?_
  exact DrM.s (R := Sml 16) (fun _ _ _ h => ⟨16, by omega, h⟩) (drM_fin rfl hSw hBw hPs.out bR o5 o6 ap5 sf (Nat.le_refl _) (.inr rfl) gf)
 by_cases c1x : x = 1
 ·subst c1x
  clear c0
  go_wp2_with fail
  refine (l10Hyperbolic_any _ 2 (by omega) (by omega)).mono ?_
  rintro e w2 ⟨v3, v4, rfl, o3, o4, ap3, hb4⟩
  have hh := hide (show Ok0 [((2 : Nat) : Int), ((2 : Nat) : Int)] ((2 : Nat) : Int) (hypTo ((2 : Nat) : Int) 2) from hyp2_ok0)
  have hr3 : ∀ x ∈ [((2 : Nat) : Int), ((2 : Nat) : Int)], i64ok x := fun x hx => by have := hyp2_ok0.m2 x hx; exact ⟨by omega, by omega⟩
  have hr4 : ∀ x ∈ hypTo ((2 : Nat) : Int) 2, i64ok x := fun x hx => by have := hyp2_ok0.rng x hx; exact ⟨by omega, by omega⟩
  replace bR := bR.all hb4
  replace s1 := (s1.e.all hb4 (by omega)).any
  replace g0 := grown_below g0 (hb4.mono (by omega))
  replace o3 := o3.less (show w.heap.size ≤ _ by omega)
  replace o4 := o4.less (show w.heap.size ≤ _ by omega)
  have z2 := bR.lt
  clear hb4 ap3
  obtain ⟨A3, c3, rfl, -⟩ := o3.sl hr3
  obtain ⟨A4, c4, rfl, -⟩ := o4.sl hr4
  obtain ⟨l3, hl3⟩ : ∃ l, [((2 : Nat) : Int), ((2 : Nat) : Int)] = l := ⟨_, rfl⟩
  obtain ⟨l4, hl4⟩ : ∃ l, hypTo ((2 : Nat) : Int) 2 = l := ⟨_, rfl⟩
  rw [hl3] at o3 hh hr3 ⊢
  rw [hl4] at o4 hh hr4 ⊢
  obtain ⟨D3, hD3⟩ : ∃ D : Nat, D = 2 := ⟨2, rfl⟩
  rw [show ((2 : Nat) : Int) = (D3 : Int) by rw [hD3]] at hh ⊢
  have hP4 : prodL l3 = 4 := by rw [← hl3]; decide
  have hL3 := hide (show l3.length = 2 by rw [← hl3]; decide)
  have hN3 : l3 ≠ [] := by rw [← hl3]; decide
  have hd3 : 55440 % D3 = 0 := by subst hD3; decide
  have hd31 : 1 ≤ D3 := by omega
  clear hD3
  have hH3 := hide hl3
  have hH4 := hide hl4
  clear hl3 hl4
  go_wp2_with fail
  refine (small_any w0 B S A n c bs hb hn n lo (by omega) 4 (by omega) (by omega) _ s1 (by omega)).mono ?_
  rintro e w3 ⟨v1, v2, os, q, vs, rfl, hR, o1, o2, ap, s2, g2⟩
  replace o3 := o3.far g2 (s1.e.ne o3)
  replace o4 := o4.far g2 (s1.e.ne o4)
  replace bR := bR.grown g2 (by simp; omega)
  replace g0 := g0.trans g2
  clear s1 g2
  replace o1 := o1.less (show w.heap.size ≤ _ by omega)
  replace o2 := o2.less (show w.heap.size ≤ _ by omega)
  obtain ⟨A1, c1, rfl, sl1⟩ := o1.sl hR.rng1
  obtain ⟨A2, c2, rfl, sl2⟩ := o2.sl hR.rng2
  obtain ⟨Aw, cw, hv1, sl3⟩ := o3.sl hr3
  obtain ⟨rfl, rfl⟩ : A3 = Aw ∧ c3 = cw := by injection hv1 with a _ b; exact ⟨a, b⟩
  obtain ⟨Ax, cx, hv2, sl4⟩ := o4.sl hr4
  obtain ⟨rfl, rfl⟩ : A4 = Ax ∧ c4 = cx := by injection hv2 with a _ b; exact ⟨a, b⟩
  clear hv1 hv2
  have hlt16 := hR.ok.lt
  have hp4 : prodL os ≤ 4 := by rcases hR.le with h | h <;> omega
  have hl2 := len2_of hR.ok.m2 hp4
  have hp1 := hR.ok.pos
  obtain ⟨D, rfl⟩ := Int.eq_ofNat_of_zero_le (show 0 ≤ q by have := hR.ok.d1; omega)
  obtain ⟨qq, ee, DD, e1, e2, hQ⟩ := sumQ (D1 := D3) (D2 := D) hd3 (Int.ofNat.inj (show Int.ofNat (55440 % D) = Int.ofNat 0 from hR.ok.dv)) (by omega) (by have := hR.ok.d1; omega)
  have hPs := hide (sum_sml (most := 16) hh.out hR.ok hQ (by have := hL3.out; omega) (show prodL l3 * prodL os ≤ 16 by rw [hP4]; omega) (by omega) (fun _ h => hN3 (List.append_eq_nil_iff.1 h).1))
  have z3 := bR.lt
  clear hN3 hP4 hp1 hp4 hlt16 hL3
  go_wp2_with fail
  refine (l10Sum_gen _ _ _ _ l3 D3 _ _ _ l4 _ _ _ os D _ _ _ vs sl3 sl4 sl1 sl2 hh.out hR.ok qq ee DD e1 e2 hQ).mono ?_
  rintro e w5 ⟨v5, v6, rfl, o5, o6, ap5, hb5⟩
  replace o5 := o5.less (show w.heap.size ≤ _ by omega)
  replace o6 := o6.less (show w.heap.size ≤ _ by omega)
  have sf := s2.all hb5 (by omega)
  have gf := grown_below g0 (hb5.mono (by omega))
  replace bR := bR.all hb5
  clear hb5 sl3 sl4 sl1 sl2 s2 g0 o1 o2 o3 o4
  have hres := bR
  have r0 := hres.cell 0
  have r1 := hres.cell 1
  have r2 := hres.cell 2
  have f0 := hres.frozen 0
  have f1 := hres.frozen 1
  have f2 := hres.frozen 2
  obtain ⟨A5, n5, c5, rfl⟩ := own_val' o5
  obtain ⟨A6, n6, c6, rfl⟩ := own_val' o6
  go_wp2_with fail
  have hb3 := put3_blk (x := .slice A5 n5 c5) (y := .int .i64 (DD : Int)) (z := .slice A6 n6 c6) hres
  have q0 := hb3.cell 0
  have q1 := hb3.cell 1
  have q2 := hb3.cell 2
  unfold put3 at q0 q1 q2
  refine bodyPost_ret (v := .agg #[.slice A5 n5 c5, .int .i64 (DD : Int), .slice A6 n6 c6]) (by simp [results, Tryz.results62, go_sem, q0, q1, q2]) rfl ?_
  exact DrM.s (R := Sml 16) (fun _ _ _ h => ⟨16, by omega, h⟩) (drM_fin rfl hSw hBw hPs.out bR o5 o6 ap5 sf (Nat.le_refl _) (.inr rfl) gf)
 ·go_wp2_with fail
  refine (l10Spoil_any w0 _ B S A n c lo bs hb hn s1 (by omega)).mono ?_
  rintro e w2 ⟨A1, c1, A2, c2, os, q, vs, rfl, hR, t1, t2, ⟨b1, b2⟩, s2, g2⟩
  have hz1 := bR.lt
  replace bR := bR.grown g2 (by simp; omega)
  have gf := g0.trans g2
  clear s1 g0 g2
  have hres := bR
  have r0 := hres.cell 0
  have r1 := hres.cell 1
  have r2 := hres.cell 2
  have f0 := hres.frozen 0
  have f1 := hres.frozen 1
  have f2 := hres.frozen 2
  go_wp2_with fail
  have hb3 := put3_blk (x := .slice A1 os.length c1) (y := .int .i64 q) (z := .slice A2 vs.length c2) hres
  have q0 := hb3.cell 0
  have q1 := hb3.cell 1
  have q2 := hb3.cell 2
  unfold put3 at q0 q1 q2
  refine bodyPost_ret (v := .agg #[.slice A1 os.length c1, .int .i64 q, .slice A2 vs.length c2]) (by simp [results, Tryz.results62, go_sem, q0, q1, q2]) rfl ?_
  have m1 : SlS w2 w.heap.size A1 os.length c1 os := ⟨t1.sl, fun b off sp e hn => by have := b1 b off sp e hn; omega⟩
  have m2 : SlS w2 w.heap.size A2 vs.length c2 vs := ⟨t2.sl, fun b off sp e hn => by have := b2 b off sp e hn; omega⟩
  exact ⟨A1, c1, A2, c2, os, q, vs, rfl, hR, slS_put3 t1 m1, slS_put3 t2 m2, ⟨fun b off sp e hn => by have := b1 b off sp e hn; omega, fun b off sp e hn => by have := b2 b off sp e hn; omega⟩, (s2.e.put3 (by omega) (by omega) _ _ _).any, grown_put3 gf (by omega) _ _ _⟩
theorem Src.all {w0 w w' : World} {B S : Nat} {A : Option Addr} {n c lo : Nat} (hs : Src w0 B S A n c lo w) (hb : Below w.heap.size w w') (hB : B ≤ w.heap.size) : Src w0 B S A n c lo w' := (hs.e.all hb hB).any
/-- It returned a metric and a list, which can be read. -/
def DSb (w : World) (e : Ending) (w' : World) : Prop := ∃ A1 c1 A2 c2 os q vs L lc xs, e = .returned (.tuple #[.agg #[.slice A1 (List.length os) c1, .int .i64 q, .slice A2 (List.length vs) c2], .slice L (List.length xs) lc]) ∧ GenM os q vs ∧ xs.length ≤ 100 ∧ Sl w' w'.heap.size A1 os.length c1 os ∧ Sl w' w'.heap.size A2 vs.length c2 vs ∧ Sl w' w'.heap.size L xs.length lc xs ∧ (LoB w.heap.size A1 os.length ∧ LoB w.heap.size A2 vs.length ∧ LoB w.heap.size L xs.length) ∧ (∀ x ∈ xs, i64ok x) ∧ Below w.heap.size w w'
theorem SlS.all {w w' : World} {S : Nat} {A : Option Addr} {n c : Nat} {xs : List Int} (h : SlS w S A n c xs) (hb : Below w.heap.size w w') : SlS w' S A n c xs := ⟨(h.sl.below hb).more hb.size, h.ne⟩
/-- What stands while the list is drawn: R is the result's block, M the metric's. -/
structure LsS (w W0 : World) (S : Nat) (A : Option Addr) (n c M R : Nat) (A1 : Option Addr) (c1 : Nat) (A2 : Option Addr) (c2 : Nat) (os : List Int) (q : Int) (vs : List Int) (wx : World) : Prop where
 res : Blk wx R 26 #[.slice none 0 0, .int .i64 0, .slice none 0 0]
 m : Blk wx M 26 #[.slice A1 os.length c1, .int .i64 q, .slice A2 vs.length c2]
 s1 : SlS wx S A1 os.length c1 os
 s2 : SlS wx S A2 vs.length c2 vs
 b1 : LoB (R + 1) A1 os.length
 b2 : LoB (R + 1) A2 vs.length
 src : Src W0 W0.heap.size S A n c 0 wx
 fr : Below w.heap.size w wx
section
variable {w W0 wx wy : World} {S : Nat} {A : Option Addr} {n c M R : Nat} {A1 A2 : Option Addr} {c1 c2 : Nat} {os vs : List Int} {q : Int}
theorem LsS.next (h : LsS w W0 S A n c M R A1 c1 A2 c2 os q vs wx) (hM : M ≠ S) (hR : R ≠ S) (hS : w.heap.size ≤ S) (hs : Src W0 W0.heap.size S A n c 0 wy) (g : wx.grownBy wy (some S)) : LsS w W0 S A n c M R A1 c1 A2 c2 os q vs wy :=
 ⟨h.res.grown g (by simp; omega), h.m.grown g (by simp; omega), h.s1.grown g, h.s2.grown g, h.b1, h.b2, hs, h.fr.trans (Below.grown (Below.refl _ _) g h.fr.size (fun k hk => by injection hk with hk; omega))⟩
theorem LsS.all (h : LsS w W0 S A n c M R A1 c1 A2 c2 os q vs wx) (hb : Below wx.heap.size wx wy) (hB : W0.heap.size ≤ wx.heap.size) : LsS w W0 S A n c M R A1 c1 A2 c2 os q vs wy :=
 ⟨h.res.all hb, h.m.all hb, h.s1.all hb, h.s2.all hb, h.b1, h.b2, h.src.all hb hB, h.fr.trans (hb.mono h.fr.size)⟩
theorem LsS.fin (h : LsS w W0 S A n c M w.heap.size A1 c1 A2 c2 os q vs wx) (hG : GenM os q vs) {L : Option Addr} {lc : Nat} {xs : List Int} (hx : xs.length ≤ 100) (hl : Sl wx wx.heap.size L xs.length lc xs) (hL : LoB (w.heap.size + 1) L xs.length) {x y z : Value} :
  DSb w (.returned (.tuple #[.agg #[.slice A1 (List.length os) c1, .int .i64 q, .slice A2 (List.length vs) c2], .slice L (List.length xs) lc])) (put3 wx w.heap.size x y z) := by
 have hle : w.heap.size < w.heap.size + 1 := Nat.lt_succ_self _
 refine ⟨A1, c1, A2, c2, os, q, vs, L, lc, xs, rfl, hG, hx, slS_out h.s1 h.b1 hle, slS_out h.s2 h.b2 hle, ?_, ⟨(h.b1.less (Nat.le_succ _)), (h.b2.less (Nat.le_succ _)), (hL.less (Nat.le_succ _))⟩, hl.rng, put3_below h.fr (Nat.le_refl _)⟩
 by_cases h0 : 0 < xs.length
 ·have hS : SlS wx w.heap.size L xs.length lc xs := ⟨hl, fun b off sp e hn => by have := hL b off sp e hn; omega⟩
  exact slS_out hS hL hle
 ·refine ⟨hl.len, hl.cap, hl.rng, fun h => absurd h h0, hl.nil_⟩
theorem LsS.finA (h : LsS w W0 S A n c M w.heap.size A1 c1 A2 c2 os q vs wx) (hG : GenM os q vs) {xs : List Int} {cs : Array Value} (hc : cs = (xs.map fun x => Value.int .i64 x).toArray) (hx : xs.length ≤ 100) (hr : ∀ x ∈ xs, i64ok x) {x y z : Value} {k m : Nat} (hk : k = xs.length) (hm : m = xs.length) :
  DSb w (.returned (.tuple #[.agg #[.slice A1 (List.length os) c1, .int .i64 q, .slice A2 (List.length vs) c2], .slice (some ⟨wx.heap.size, 0, none⟩) k m])) ((put3 wx w.heap.size x y z).alloc (.cells cs 2)) := by
 subst hk hm
 have hle : w.heap.size < w.heap.size + 1 := Nat.lt_succ_self _
 have a1 := slS_out (x := x) (y := y) (z := z) h.s1 h.b1 hle
 have a2 := slS_out (x := x) (y := y) (z := z) h.s2 h.b2 hle
 obtain ⟨W, hW⟩ : ∃ W, put3 wx w.heap.size x y z = W := ⟨_, rfl⟩
 have hs : wx.heap.size = W.heap.size := by rw [← hW, put3_size]
 have hf : Below w.heap.size w W := by rw [← hW]; exact put3_below h.fr (Nat.le_refl _)
 rw [hW] at a1 a2 ⊢
 rw [hs]
 have g := (Below.refl W.heap.size W).alloc (Nat.le_refl _) (.cells cs 2)
 have o : Ow (W.alloc (.cells cs 2)) W.heap.size (.slice (some ⟨W.heap.size, 0, none⟩) xs.length xs.length) xs := Ow.made' W cs W.heap.size xs.length rfl (by rw [hc]) (Nat.le_refl _) rfl (by unfold maxLen; omega)
 obtain ⟨A', c', e, sl⟩ := o.sl hr
 injection e with e1 _ e3
 subst e1 e3
 exact ⟨A1, c1, A2, c2, os, q, vs, _, _, xs, rfl, hG, hx, (a1.below g).more g.size, (a2.below g).more g.size, sl, ⟨(h.b1.less (Nat.le_succ _)), (h.b2.less (Nat.le_succ _)), fun b off sp e _ => by injection e with e; injection e with e1 _ _; have := hf.size; omega⟩, hr, hf.alloc (by have := hf.size; omega) _⟩
end
theorem one_isoK {os vs : List Int} {D : Int} (hM : IsM os D vs) : 1 ∈ isoK os vs := by
 have hN1 : 1 ≤ vs.length := by have := hM.ok.g.ge; have := hM.ok.len; omega
 have hm : mems vs.length 1 = [0] := by
  have := mems_msk (xs := [0]) (n := vs.length) (by simp) (fun x hx => by simp at hx; omega)
  exact this
 unfold isoK sgK
 refine List.mem_filter.2 ⟨List.mem_map.2 ⟨1, mem_allK.2 (one_isK hM.ok.g hM.ok.len), rfl⟩, ?_⟩
 show isoB vs (mems vs.length 1) = true
 rw [hm]
 have h0 := hM.zero
 simp [isoB, Vl, h0]
theorem cell_put3 {w : World} {R b k : Nat} {x y z : Value} (h : b ≠ R) : (put3 w R x y z).cell? ⟨b, k, none⟩ = w.cell? ⟨b, k, none⟩ := by
 have : (put3 w R x y z).heap[b]? = w.heap[b]? := by
  unfold put3
  rw [Below.heap_setCell _ _ _ _ h, Below.heap_setCell _ _ _ _ h, Below.heap_setCell _ _ _ _ h]
 unfold World.cell?
 rw [this]
theorem cell_grown {w w' : World} {S b k : Nat} (h : w.grownBy w' (some S)) (hb : b < w.heap.size) (hS : b ≠ S) : w'.cell? ⟨b, k, none⟩ = w.cell? ⟨b, k, none⟩ := by
 have : w'.heap[b]? = w.heap[b]? := h.block b hb (fun e => hS (Option.some.inj e))
 unfold World.cell?
 rw [this]
theorem pow2_16 : ∀ N : Nat, N ≤ 16 → 1 ≤ (2 : Int) ^ N ∧ (2 : Int) ^ N ≤ 65536 := by decide
set_option maxRecDepth 100000 in
set_option maxHeartbeats 8000000 in
theorem l11Sub_any (w : World) (A : Option Addr) (n c : Nat) (bs : List Int) (hb : SlB w w.heap.size A n c bs) (hn : n ≤ 4096) (iso : Bool) : Calls Tryz.prog 45 #[.slice A n c, .bool iso] w (DSb w) := by
 go_enter Tryz.func45, Tryz.ntmps45
 obtain ⟨W0, hW0⟩ : ∃ W0, w.alloc (.cells #[.slice none 0 0, .int .i64 0, .slice none 0 0] 26) = W0 := ⟨_, rfl⟩
 have bR : Blk W0 w.heap.size 26 #[.slice none 0 0, .int .i64 0, .slice none 0 0] := by rw [← hW0]; exact Blk.new _ _ _
 have k0 : Below w.heap.size w W0 := by rw [← hW0]; exact (by repeat (first | assumption | exact Below.refl _ _ | apply below_drewN | apply Below.drew | apply Below.alloc | apply Below.setCell | omega | (focus (simp; done)) | (focus (simp; omega))))
 have z0 : w.heap.size < W0.heap.size := by rw [← hW0]; simp
 have hb0 : SlB W0 W0.heap.size A n c bs := ⟨hb.len, hb.cap, hb.rng, fun h => by
  obtain ⟨b, off, e, hlt, hc⟩ := hb.at_ h
  exact ⟨b, off, e, by omega, fun k hk => (k0.cell (p := ⟨b, off + k, none⟩) hlt).trans (hc k hk)⟩⟩
 have z00 : W0.heap.size = w.heap.size + 1 := by rw [← hW0]; simp
 go_wp2_with fail
 clear hW0
 refine (l01From_any W0 A n c bs hb0 hn).mono ?_
 rintro e w1 ⟨S, rfl, s1⟩
 have bR1 := bR.below s1.below z0
 have z1 := s1.below.size
 have hSz := s1.hS
 go_wp2_with fail
 refine (l11Draw_any W0 w1 W0.heap.size S A n c 0 bs hb0 (by omega) s1 z1).mono ?_
 rintro e w2 ⟨A1, c1, A2, c2, os, q, vs, rfl, hG, sl1, sl2, ⟨lb1, lb2⟩, s2, g2⟩
 replace bR1 := bR1.grown g2 (by simp; omega)
 obtain ⟨W3, hW3⟩ : ∃ W3, w2.alloc (.cells #[.slice A1 os.length c1, .int .i64 q, .slice A2 vs.length c2] 26) = W3 := ⟨_, rfl⟩
 have hgA := World.grownBy_alloc w2 (.cells #[.slice A1 os.length c1, .int .i64 q, .slice A2 vs.length c2] 26) (some S)
 have z2 := s2.below.size
 have hSw2 := s2.lt
 have hL : LsS w W0 S A n c w2.heap.size w.heap.size A1 c1 A2 c2 os q vs W3 := by
  rw [← hW3]
  exact ⟨bR1.alloc _, Blk.new _ _ _, sl1.grown hgA, sl2.grown hgA, fun b off sp e h => by have := lb1 b off sp e h; omega, fun b off sp e h => by have := lb2 b off sp e h; omega, s2.alloc _, (k0.trans (s2.below.mono (by omega))).alloc (by omega) _⟩
 have hMS : w2.heap.size ≠ S := by omega
 have hMR : w2.heap.size ≠ w.heap.size := by omega
 have hRS : w.heap.size ≠ S := by omega
 have hSw : w.heap.size ≤ S := by omega
 have z3 : W0.heap.size ≤ W3.heap.size := by rw [← hW3]; simp; omega
 clear bR bR1 k0 s1 s2 sl1 sl2 lb1 lb2 g2 hgA
 obtain ⟨M, hM⟩ : ∃ M, w2.heap.size = M := ⟨_, rfl⟩
 have hL1 := hL.m
 have j0 := hL1.cell 0
 have j1 := hL1.cell 1
 have j2 := hL1.cell 2
 rw [hM] at hL hMS hMR j0 j1 j2
 go_upto_region 3 with fail
 clear hW3 hL1
 cases hI : isM os q vs with
 | false =>
  have hc := hide (fun W (hb : Below W3.heap.size W3 W) => l10Is_v false W _ _ _ _ _ _ _ _ _ (((hL.s1.sl.below hb).more hb.size)) ((hL.s2.sl.below hb).more hb.size) (by have := hG.o; omega) (by have := hG.v; omega) hI)
  go_wp2_with fail
  refine (hc.out _ (Below.refl _ _)).mono ?_
  rintro e w4 ⟨rfl, hb4⟩
  replace hL := hL.all hb4 z3
  have z4 := hb4.size
  clear j0 j1 j2 hc hb4
  have hL1 := hL.m
  have hres := hL.res
  have lm := hL1.lt
  have lr := hres.lt
  have j0 := hL1.cell 0
  have j1 := hL1.cell 1
  have j2 := hL1.cell 2
  have r0 := hres.cell 0
  have r1 := hres.cell 1
  have r2 := hres.cell 2
  have f0 := hres.frozen 0
  have f1 := hres.frozen 1
  have f2 := hres.frozen 2
  go_wp2_with fail
  have hb3 := (put3_blk (x := .slice A1 os.length c1) (y := .int .i64 q) (z := .slice A2 vs.length c2) hres)
  have q0 := hb3.cell 0
  have q1 := hb3.cell 1
  have q2 := hb3.cell 2
  unfold put3 at q0 q1 q2
  refine bodyPost_ret (v := .tuple #[.agg #[.slice A1 (List.length os) c1, .int .i64 q, .slice A2 (List.length vs) c2], .slice (some ⟨w4.heap.size, 0, none⟩) (List.length ([0] : List Int)) (List.length ([0] : List Int))]) (by simp [results, Tryz.results45, go_sem, q0, q1, q2, lr]) rfl ?_
  exact hL.finA hG (xs := [0]) (by simp) (by simp) (fun x hx => by simp at hx; subst hx; exact ⟨by omega, by omega⟩) rfl rfl
 | true =>
  have hMM := isM_iff.1 hI
  have hc := hide (fun W (hb : Below W3.heap.size W3 W) => l10Is_v true W _ _ _ _ _ _ _ _ _ (((hL.s1.sl.below hb).more hb.size)) ((hL.s2.sl.below hb).more hb.size) (by have := hG.o; omega) (by have := hG.v; omega) hI)
  go_wp2_with fail
  refine (hc.out _ (Below.refl _ _)).mono ?_
  rintro e w4 ⟨rfl, hb4⟩
  replace hL := hL.all hb4 z3
  have z4 := hb4.size
  clear j0 j1 j2 hc hb4
  have hL1 := hL.m
  have lm := hL1.lt
  have j0 := hL1.cell 0
  have j1 := hL1.cell 1
  have j2 := hL1.cell 2
  go_wp2_with fail
  refine ((l10Size_any _ _ _ _ _ _ hL.s1.sl hMM.ok.g).mono fun _ _ h => Qt.re h).mono ?_
  rintro e w5 ⟨rfl, hb5⟩
  replace hL := hL.all hb5 (by omega)
  have z5 := hb5.size
  have hlN := hMM.ok.len
  have hN16 : vs.length ≤ 16 := by have := hMM.ok.g.p16; omega
  have hN1 : 1 ≤ vs.length := by have := hMM.ok.g.ge; omega
  rw [← hlN]
  have hMH := hide hMM
  obtain ⟨N, hN⟩ : ∃ N, vs.length = N := ⟨_, rfl⟩
  have hNH := hide hN
  clear hlN hb5 j0 j1 j2 hL1 lm hMM
  rw [hN] at hN16 hN1 ⊢
  clear hN
  go_wp2_with fail
  refine (l01Next_any W0 _ _ S A n c 0 bs hb0 (by omega) hL.src 8 ⟨by omega, by omega⟩).mono ?_
  rintro e w6 ⟨x, rfl, ⟨x0, x1, -⟩, s6, g6⟩
  replace x1 := x1 (by omega)
  replace hL := hL.next hMS hRS hSw s6 g6
  have z6 := g6.size
  clear s6 g6
  have hL1 := hL.m
  have hres := hL.res
  have lm := hL1.lt
  have lr := hres.lt
  rw [hNH.out] at hL1
  have j0 := hL1.cell 0
  have j1 := hL1.cell 1
  have j2 := hL1.cell 2
  have r0 := hres.cell 0
  have r1 := hres.cell 1
  have r2 := hres.cell 2
  have f0 := hres.frozen 0
  have f1 := hres.frozen 1
  have f2 := hres.frozen 2
  by_cases c0 : x = 0
  ·subst c0
   go_upto_region 8 with fail
   have v0 : IntKind.u64.wrap (N : Int) = N := wraps63 _ (by omega) (by omega)
   have p2 := pow2_16 N hN16
   have v1 : IntKind.i64.wrap ((2 : Int) ^ N) = 2 ^ N := wr64 _ ⟨by omega, by omega⟩
   refine wp_region_ord [0, 1, 2, 3, 4, 5, 6, 7, 8, 9] 9 (fun w' => w'.cell? ⟨M, 0, none⟩ = some (.slice A1 os.length c1) ∧ w'.cell? ⟨M, 1, none⟩ = some (.int .i64 q) ∧ w'.cell? ⟨M, 2, none⟩ = some (.slice A2 N c2)) (by kernel_rfl) (by kernel_rfl) (by kernel_rfl) (fun _ _ _ _ _ h => h) ⟨j0, j1, j2⟩ ?_
   repeat (first | (apply ord_tk rfl (by rfl) (by rfl) (by rfl); (focus (intro wx hSw; obtain ⟨t0, t1, t2⟩ := hSw; go_simp; (try with_reducible rfl))); (try simp only [Act.put, List.setIfInBounds_toArray, List.set_cons_zero, List.set_cons_succ])) | (apply ord_skip rfl (by rfl) (by rfl) (fun _ => hBe); (try simp only [Act.put, List.setIfInBounds_toArray, List.set_cons_zero, List.set_cons_succ])))
   obtain ⟨P, hP⟩ : ∃ P : Int, 2 ^ N = P := ⟨_, rfl⟩
   rw [hP] at p2 v1 ⊢
   clear hP v0 v1
   replace hL := hL.all (wy := w6.drew) ((Below.refl _ _).drew) (by omega)
   clear hL1 hres r0 r1 r2 f0 f1 f2 j0 j1 j2
   refine ord_do rfl (by rfl) (by rfl) (fun K hK => ?_)
   go_simp
   refine (l01Next_any W0 _ _ S A n c 0 bs hb0 (by omega) hL.src P ⟨by omega, by omega⟩).mono ?_
   rintro e w7 ⟨y, rfl, ⟨y0, y1, -⟩, s7, g7⟩
   replace y1 := y1 (by omega)
   replace hL := hL.next hMS hRS hSw s7 g7
   have z7 : w6.heap.size ≤ w7.heap.size := g7.size
   clear s7 g7
   have hL1 := hL.m
   rw [hNH.out] at hL1
   refine hK.out _ _ (fun _ => ⟨hL1.cell 0, hL1.cell 1, hL1.cell 2⟩) ?_
   (try simp only [Act.put, List.setIfInBounds_toArray, List.set_cons_zero, List.set_cons_succ])
   clear hK K
   clear hL1
   obtain ⟨m, rfl⟩ := Int.eq_ofNat_of_zero_le y0
   refine ord_do rfl (by rfl) (by rfl) (fun K hK => ?_)
   go_simp
   refine (l11Members_any _ N m hN16 (by omega)).mono ?_
   rintro e w8 ⟨v, rfl, hO, hb8⟩
   obtain ⟨Av, cv, rfl, hsl⟩ := hO.sl (fun x hx => by have := mems_rng x hx; exact ⟨by omega, by omega⟩)
   have hlo := hO.loB (m := (mems N m).length)
   have hml := mems_len N m
   replace hL := hL.all hb8 (by omega)
   have z8 := hb8.size
   clear hO hb8
   have hL1 := hL.m
   rw [hNH.out] at hL1
   refine hK.out _ _ (fun _ => ⟨hL1.cell 0, hL1.cell 1, hL1.cell 2⟩) ?_
   (try simp only [Act.put, List.setIfInBounds_toArray, List.set_cons_zero, List.set_cons_succ])
   clear hK K
   have hf := put3_far (x := .slice A1 os.length c1) (y := .int .i64 q) (z := .slice A2 N c2) hL1 hMR
   clear hL1
   have hres := hL.res
   have lr := hres.lt
   have r0 := hres.cell 0
   have r1 := hres.cell 1
   have r2 := hres.cell 2
   have f0 := hres.frozen 0
   have f1 := hres.frozen 1
   have f2 := hres.frozen 2
   refine ord_do rfl (by rfl) (by rfl) (fun K hK => ?_)
   go_simp
   refine hK.out _ _ (fun _ => ⟨hf.cell 0, hf.cell 1, hf.cell 2⟩) ?_
   (try simp only [Act.put, List.setIfInBounds_toArray, List.set_cons_zero, List.set_cons_succ])
   clear hK K
   refine ord_do rfl (by rfl) (by rfl) (fun K hK => ?_)
   go_simp
   refine hK.out _ _ (fun h => absurd h (by omega)) ?_
   (try simp only [Act.put, List.setIfInBounds_toArray, List.set_cons_zero, List.set_cons_succ])
   clear hK K
   refine ord_nil ?_
   go_wp2_with fail
   have hb3 := (put3_blk (x := .slice A1 os.length c1) (y := .int .i64 q) (z := .slice A2 N c2) hres)
   have q0 := hb3.cell 0
   have q1 := hb3.cell 1
   have q2 := hb3.cell 2
   unfold put3 at q0 q1 q2
   refine bodyPost_ret (v := .tuple #[.agg #[.slice A1 (List.length os) c1, .int .i64 q, .slice A2 N c2], .slice Av (mems N m).length cv]) (by simp [results, Tryz.results45, go_sem, q0, q1, q2, lr]) rfl ?_
   have hNe := hNH.out
   subst hNe
   exact hL.fin hG (by omega) hsl (fun b off sp e h => by have := hlo b off sp e h; omega)
  by_cases c1x : x = 1
  ·subst c1x
   clear c0
   go_upto_region 10 with fail
   have v1 : IntKind.i64.wrap ((N : Int) - 1) = (N : Int) - 1 := wr64 _ ⟨by omega, by omega⟩
   refine wp_region_ot (.one 0 (.one 1 (.one 2 (.one 3 (.one 4 (.two 5 (.one 6 (.one 7 .nil)) 6 (.one 5 (.one 7 .nil)))))))) 7 (fun w' => w'.cell? ⟨M, 0, none⟩ = some (.slice A1 os.length c1) ∧ w'.cell? ⟨M, 1, none⟩ = some (.int .i64 q) ∧ w'.cell? ⟨M, 2, none⟩ = some (.slice A2 N c2)) (by kernel_rfl) (by kernel_rfl) (by kernel_rfl) (fun _ _ _ _ _ h => h) ⟨j0, j1, j2⟩ ?_
   repeat (first | (apply ot_tk rfl (by rfl) (by rfl) (by rfl); (focus (intro wx hSw; obtain ⟨t0, t1, t2⟩ := hSw; go_simp; (try with_reducible rfl))); (try simp only [Act.put, List.setIfInBounds_toArray, List.set_cons_zero, List.set_cons_succ])) | (apply ot_skip rfl (by rfl) (by rfl) (fun _ => hBe); (try simp only [Act.put, List.setIfInBounds_toArray, List.set_cons_zero, List.set_cons_succ])))
   clear v1
   replace hL := hL.all (wy := w6.drew) ((Below.refl _ _).drew) (by omega)
   clear hL1 hres r0 r1 r2 f0 f1 f2 j0 j1 j2
   refine ot_do rfl (by rfl) (by rfl) (fun K hK => ?_)
   go_simp
   refine (l01Count_any W0 _ _ S A n c 0 bs hb0 (by omega) hL.src ((N : Int) - 1) (by omega) (by omega)).mono ?_
   rintro e w7 ⟨y, rfl, hy, s7, g7⟩
   replace hL := hL.next hMS hRS hSw s7 g7
   have z7 : w6.heap.size ≤ w7.heap.size := g7.size
   clear s7 g7
   have hL1 := hL.m
   rw [hNH.out] at hL1
   refine hK.out _ _ (fun _ => ⟨hL1.cell 0, hL1.cell 1, hL1.cell 2⟩) ?_
   (try simp only [Act.put, List.setIfInBounds_toArray, List.set_cons_zero, List.set_cons_succ])
   clear hK K
   have hf := put3_far (x := .slice A1 os.length c1) (y := .int .i64 q) (z := .slice A2 N c2) hL1 hMR
   have hfa := hf.alloc (.cells #[.int .i64 0, .int .i64 y] 2)
   have hLa := hL1.alloc (.cells #[.int .i64 0, .int .i64 y] 2)
   clear hL1
   have hres := hL.res
   have lr := hres.lt
   have r0 := hres.cell 0
   have r1 := hres.cell 1
   have r2 := hres.cell 2
   have f0 := hres.frozen 0
   have f1 := hres.frozen 1
   have f2 := hres.frozen 2
   refine ot_two ?_ ?_
   ·refine ot_do rfl (by rfl) (by rfl) (fun K hK => ?_)
    go_simp
    refine hK.out _ _ (fun _ => ⟨hLa.cell 0, hLa.cell 1, hLa.cell 2⟩) ?_
    (try simp only [Act.put, List.setIfInBounds_toArray, List.set_cons_zero, List.set_cons_succ])
    clear hK K
    refine ot_do rfl (by rfl) (by rfl) (fun K hK => ?_)
    go_simp
    refine hK.out _ _ (fun _ => ⟨hfa.cell 0, hfa.cell 1, hfa.cell 2⟩) ?_
    (try simp only [Act.put, List.setIfInBounds_toArray, List.set_cons_zero, List.set_cons_succ])
    clear hK K
    refine ot_do rfl (by rfl) (by rfl) (fun K hK => ?_)
    go_simp
    refine hK.out _ _ (fun h => absurd h (by omega)) ?_
    (try simp only [Act.put, List.setIfInBounds_toArray, List.set_cons_zero, List.set_cons_succ])
    clear hK K
    refine ot_nil ?_
    go_wp2_with fail
    have hr2 : ∀ x ∈ [0, y], i64ok x := fun x hx => by
     simp at hx
     rcases hx with rfl | rfl
     ·exact ⟨by omega, by omega⟩
     ·exact hy
    have hb3 := (put3_blk (x := .slice A1 os.length c1) (y := .int .i64 q) (z := .slice A2 N c2) hres)
    have q0 := hb3.cell 0
    have q1 := hb3.cell 1
    have q2 := hb3.cell 2
    unfold put3 at q0 q1 q2
    refine bodyPost_ret (v := .tuple #[.agg #[.slice A1 (List.length os) c1, .int .i64 q, .slice A2 N c2], .slice (some ⟨w7.heap.size, 0, none⟩) 2 2]) (by simp [results, Tryz.results45, go_sem, q0, q1, q2, lr]) rfl ?_
    have hNe := hNH.out
    subst hNe
    exact hL.finA hG (xs := [0, y]) (by simp) (by simp) hr2 rfl rfl
   ·refine ot_do rfl (by rfl) (by rfl) (fun K hK => ?_)
    go_simp
    refine hK.out _ _ (fun _ => ⟨hf.cell 0, hf.cell 1, hf.cell 2⟩) ?_
    (try simp only [Act.put, List.setIfInBounds_toArray, List.set_cons_zero, List.set_cons_succ])
    clear hK K
    refine ot_do rfl (by rfl) (by rfl) (fun K hK => ?_)
    go_simp
    refine hK.out _ _ (fun _ => ⟨hfa.cell 0, hfa.cell 1, hfa.cell 2⟩) ?_
    (try simp only [Act.put, List.setIfInBounds_toArray, List.set_cons_zero, List.set_cons_succ])
    clear hK K
    refine ot_do rfl (by rfl) (by rfl) (fun K hK => ?_)
    go_simp
    refine hK.out _ _ (fun h => absurd h (by omega)) ?_
    (try simp only [Act.put, List.setIfInBounds_toArray, List.set_cons_zero, List.set_cons_succ])
    clear hK K
    refine ot_nil ?_
    go_wp2_with fail
    have hr2 : ∀ x ∈ [0, y], i64ok x := fun x hx => by
     simp at hx
     rcases hx with rfl | rfl
     ·exact ⟨by omega, by omega⟩
     ·exact hy
    have hb3 := (put3_blk (x := .slice A1 os.length c1) (y := .int .i64 q) (z := .slice A2 N c2) hres)
    have q0 := hb3.cell 0
    have q1 := hb3.cell 1
    have q2 := hb3.cell 2
    unfold put3 at q0 q1 q2
    refine bodyPost_ret (v := .tuple #[.agg #[.slice A1 (List.length os) c1, .int .i64 q, .slice A2 N c2], .slice (some ⟨w7.heap.size, 0, none⟩) 2 2]) (by simp [results, Tryz.results45, go_sem, q0, q1, q2, lr]) rfl ?_
    have hNe := hNH.out
    subst hNe
    exact hL.finA hG (xs := [0, y]) (by simp) (by simp) hr2 rfl rfl
  clear hL1 hres lm lr j0 j1 j2 r0 r1 r2 f0 f1 f2
  have hL1 := hL.m
  have lm := hL1.lt
  rw [hNH.out] at hL1
  have j0 := hL1.cell 0
  have j1 := hL1.cell 1
  have j2 := hL1.cell 2
  go_wp2_with fail
  refine (l11Masks_any _ _ _ _ os q _ _ _ N hL.s1.sl hMH.out.ok.g (by rw [← hMH.out.ok.len, hNH.out])).mono ?_
  rintro e w7 ⟨v, rfl, hO, hb7⟩
  replace hL := hL.all hb7 (by omega)
  have z7 := hb7.size
  replace hO := hO.less (show w.heap.size + 1 ≤ _ by omega)
  have hG1 := hide (show ∀ x ∈ sgK os N, 0 ≤ x ∧ x < 65536 from fun x hx => ⟨(sgK_rng hN16 x hx).1, (sgK_rng hN16 x hx).2.2⟩)
  have hG2 := hide (sgK_len (os := os) hN16)
  have hG3 := hide (show 1 ∈ sgK os N by have := isoK_sub 1 (one_isoK hMH.out); rw [hNH.out] at this; exact this)
  clear hL1 lm j0 j1 j2 hb7 c0 c1x
  obtain ⟨L, hLL⟩ : ∃ L, sgK os N = L := ⟨_, rfl⟩
  rw [hLL] at hO hG1 hG2 hG3
  clear hLL
  obtain ⟨Al, cl, rfl⟩ := hO.val
  cases iso with
  | false =>
   go_upto_region 14 with fail
   have hpos : 0 < L.length := List.length_pos_of_mem hG3.out
   have hL6 : L.length ≤ 65536 := hG2.out
   obtain ⟨Aw, cw, hv, hsl⟩ := hO.sl (fun x hx => by have := hG1.out x hx; exact ⟨by omega, by omega⟩)
   obtain ⟨rfl, rfl⟩ : Al = Aw ∧ cl = cw := by injection hv with a _ b; exact ⟨a, b⟩
   obtain ⟨g, off, rfl, hg, hcs⟩ := hsl.at_ hpos
   have hgS : g ≠ S := fun e => hL.src.e.ne hO g rfl (by rw [e])
   have hgR : g ≠ w.heap.size := by have := (hO.lt g rfl).1; omega
   have hL1 := hL.m
   rw [hNH.out] at hL1
   have j0 := hL1.cell 0
   have j1 := hL1.cell 1
   have j2 := hL1.cell 2
   clear hv
   refine wp_region_ord [0, 1, 2, 3, 4, 5, 6, 7, 8, 9, 10, 11] 11 (fun w' => (w'.cell? ⟨M, 0, none⟩ = some (.slice A1 os.length c1) ∧ w'.cell? ⟨M, 1, none⟩ = some (.int .i64 q) ∧ w'.cell? ⟨M, 2, none⟩ = some (.slice A2 N c2)) ∧ Hid (∀ k, k < L.length → w'.cell? ⟨g, off + k, none⟩ = some (.int .i64 (gi L k)))) (by kernel_rfl) (by kernel_rfl) (by kernel_rfl) (fun _ _ _ _ _ h => h) ⟨⟨j0, j1, j2⟩, hide hcs⟩ ?_
   repeat (first | (apply ord_tk rfl (by rfl) (by rfl) (by rfl); (focus (intro wx hSw; obtain ⟨⟨t0, t1, t2⟩, t3⟩ := hSw; go_simp; (try with_reducible rfl))); (try simp only [Act.put, List.setIfInBounds_toArray, List.set_cons_zero, List.set_cons_succ])) | (apply ord_skip rfl (by rfl) (by rfl) (fun _ => hBe); (try simp only [Act.put, List.setIfInBounds_toArray, List.set_cons_zero, List.set_cons_succ])))
   replace hL := hL.all (wy := w7.drew) ((Below.refl _ _).drew) (by omega)
   replace hcs : ∀ k, k < L.length → w7.drew.cell? ⟨g, off + k, none⟩ = some (.int .i64 (gi L k)) := hcs
   replace hg : g < w7.drew.heap.size := hg
   clear hL1 j0 j1 j2 hO hsl
   refine ord_do rfl (by rfl) (by rfl) (fun K hK => ?_)
   go_simp
   refine (l01Next_any W0 _ _ S A n c 0 bs hb0 (by omega) hL.src (L.length : Int) ⟨by omega, by omega⟩).mono ?_
   rintro e wn ⟨y, rfl, ⟨y0, y1, -⟩, sn, gn⟩
   replace y1 := y1 (by omega)
   replace hL := hL.next hMS hRS hSw sn gn
   replace hcs : ∀ k, k < L.length → wn.cell? ⟨g, off + k, none⟩ = some (.int .i64 (gi L k)) := fun k hk => (cell_grown gn hg hgS).trans (hcs k hk)
   have zn : w7.heap.size ≤ wn.heap.size := gn.size
   replace hg : g < wn.heap.size := Nat.lt_of_lt_of_le hg gn.size
   clear sn gn
   have hL1 := hL.m
   rw [hNH.out] at hL1
   have hcH := hide hcs
   clear hcs
   refine hK.out _ _ (fun _ => ⟨⟨hL1.cell 0, hL1.cell 1, hL1.cell 2⟩, hcH⟩) ?_
   (try simp only [Act.put, List.setIfInBounds_toArray, List.set_cons_zero, List.set_cons_succ])
   clear hK K
   clear hL1
   obtain ⟨k, rfl⟩ := Int.eq_ofNat_of_zero_le y0
   have hkL : k < L.length := by omega
   have hgm := hG1.out _ (gi_mem hkL)
   obtain ⟨m, hm⟩ := Int.eq_ofNat_of_zero_le hgm.1
   rw [hm] at hgm
   have hmH := hide hm
   clear hm
   repeat (first | (apply ord_tk rfl (by rfl) (by rfl) (by rfl); (focus (intro wx hSw; obtain ⟨-, t3⟩ := hSw; have t4 := t3.out k hkL; rw [hmH.out] at t4; go_simp; (try with_reducible rfl))); (try simp only [Act.put, List.setIfInBounds_toArray, List.set_cons_zero, List.set_cons_succ])) | (apply ord_skip rfl (by rfl) (by rfl) (fun _ => hBe); (try simp only [Act.put, List.setIfInBounds_toArray, List.set_cons_zero, List.set_cons_succ])))
   refine ord_do rfl (by rfl) (by rfl) (fun K hK => ?_)
   go_simp
   refine (l11Members_any _ N m hN16 (by omega)).mono ?_
   rintro e wo ⟨v, rfl, hO, hb8⟩
   obtain ⟨Av, cv, rfl, hsl⟩ := hO.sl (fun x hx => by have := mems_rng x hx; exact ⟨by omega, by omega⟩)
   have hlo := hO.loB (m := (mems N m).length)
   have hml := mems_len N m
   replace hL := hL.all hb8 (by omega)
   have hcI := hide (show ∀ k, k < L.length → wo.cell? ⟨g, off + k, none⟩ = some (.int .i64 (gi L k)) from fun k hk => (hb8.cell (p := ⟨g, off + k, none⟩) hg).trans (hcH.out k hk))
   clear hO hb8 hcH
   have hL1 := hL.m
   rw [hNH.out] at hL1
   refine hK.out _ _ (fun _ => ⟨⟨hL1.cell 0, hL1.cell 1, hL1.cell 2⟩, hcI⟩) ?_
   (try simp only [Act.put, List.setIfInBounds_toArray, List.set_cons_zero, List.set_cons_succ])
   clear hK K
   have hf := put3_far (x := .slice A1 os.length c1) (y := .int .i64 q) (z := .slice A2 N c2) hL1 hMR
   clear hL1
   have hcJ := hide (show ∀ k, k < L.length → (put3 wo w.heap.size (.slice A1 os.length c1) (.int .i64 q) (.slice A2 N c2)).cell? ⟨g, off + k, none⟩ = some (.int .i64 (gi L k)) from fun k hk => (cell_put3 hgR).trans (hcI.out k hk))
   have hres := hL.res
   have lr := hres.lt
   have r0 := hres.cell 0
   have r1 := hres.cell 1
   have r2 := hres.cell 2
   have f0 := hres.frozen 0
   have f1 := hres.frozen 1
   have f2 := hres.frozen 2
   refine ord_do rfl (by rfl) (by rfl) (fun K hK => ?_)
   go_simp
   refine hK.out _ _ (fun _ => ⟨⟨hf.cell 0, hf.cell 1, hf.cell 2⟩, hcJ⟩) ?_
   (try simp only [Act.put, List.setIfInBounds_toArray, List.set_cons_zero, List.set_cons_succ])
   clear hK K
   refine ord_do rfl (by rfl) (by rfl) (fun K hK => ?_)
   go_simp
   refine hK.out _ _ (fun h => absurd h (by omega)) ?_
   (try simp only [Act.put, List.setIfInBounds_toArray, List.set_cons_zero, List.set_cons_succ])
   clear hK K
   refine ord_nil ?_
   go_wp2_with fail
   have hb3 := (put3_blk (x := .slice A1 os.length c1) (y := .int .i64 q) (z := .slice A2 N c2) hres)
   have q0 := hb3.cell 0
   have q1 := hb3.cell 1
   have q2 := hb3.cell 2
   unfold put3 at q0 q1 q2
   refine bodyPost_ret (v := .tuple #[.agg #[.slice A1 (List.length os) c1, .int .i64 q, .slice A2 N c2], .slice Av (mems N m).length cv]) (by simp [results, Tryz.results45, go_sem, q0, q1, q2, lr]) rfl ?_
   have hNe := hNH.out
   subst hNe
   exact hL.fin hG (by omega) hsl (fun b off sp e h => by have := hlo b off sp e h; omega)
  | true =>
   have hL1 := hL.m
   have lm := hL1.lt
   rw [hNH.out] at hL1
   have j0 := hL1.cell 0
   have j1 := hL1.cell 1
   have j2 := hL1.cell 2
   go_wp2_with fail
   refine (l01Next_any W0 _ _ S A n c 0 bs hb0 (by omega) hL.src 4 ⟨by omega, by omega⟩).mono ?_
   rintro e w8 ⟨y, rfl, ⟨y0, y1, -⟩, s8, g8⟩
   replace hO := hO.far g8 (hL.src.e.ne hO)
   replace hL := hL.next hMS hRS hSw s8 g8
   have z8 : w7.heap.size ≤ w8.heap.size := g8.size
   clear s8 g8 y1 hL1 lm j0 j1 j2
   by_cases cy : 0 < y
   ·have hL1 := hL.m
    have lm := hL1.lt
    rw [hNH.out] at hL1
    have j0 := hL1.cell 0
    have j1 := hL1.cell 1
    have j2 := hL1.cell 2
    go_wp2_with fail
    have hs2 := hL.s2.sl
    rw [hNH.out] at hs2
    refine (l11IsoMasks_any _ _ _ _ os q _ _ _ vs hL.s1.sl hs2 hMH.out.ok).mono ?_
    clear hs2 hO hG1 hG2 hG3 hL1 lm j0 j1 j2
    rintro e w9 ⟨v, rfl, hO, hb9⟩
    replace hL := hL.all hb9 (by omega)
    have z9 := hb9.size
    replace hO := hO.less (show w.heap.size + 1 ≤ _ by omega)
    have hsub : ∀ x ∈ isoK os vs, x ∈ sgK os N := fun x hx => by have := isoK_sub x hx; rw [hNH.out] at this; exact this
    have hG1 := hide (show ∀ x ∈ isoK os vs, 0 ≤ x ∧ x < 65536 from fun x hx => ⟨(sgK_rng hN16 x (hsub x hx)).1, (sgK_rng hN16 x (hsub x hx)).2.2⟩)
    have hG2 := hide (Nat.le_trans (isoK_len os vs) (sgK_len (os := os) (N := vs.length) (by rw [hNH.out]; exact hN16)))
    have hG3 := hide (show 1 ∈ isoK os vs from one_isoK hMH.out)
    clear hsub hb9
    obtain ⟨L, hLL⟩ : ∃ L, isoK os vs = L := ⟨_, rfl⟩
    rw [hLL] at hO hG1 hG2 hG3
    clear hLL
    obtain ⟨Al, cl, rfl⟩ := hO.val
    go_upto_region 14 with fail
    have hpos : 0 < L.length := List.length_pos_of_mem hG3.out
    have hL6 : L.length ≤ 65536 := hG2.out
    obtain ⟨Aw, cw, hv, hsl⟩ := hO.sl (fun x hx => by have := hG1.out x hx; exact ⟨by omega, by omega⟩)
    obtain ⟨rfl, rfl⟩ : Al = Aw ∧ cl = cw := by injection hv with a _ b; exact ⟨a, b⟩
    obtain ⟨g, off, rfl, hg, hcs⟩ := hsl.at_ hpos
    have hgS : g ≠ S := fun e => hL.src.e.ne hO g rfl (by rw [e])
    have hgR : g ≠ w.heap.size := by have := (hO.lt g rfl).1; omega
    have hL1 := hL.m
    rw [hNH.out] at hL1
    have j0 := hL1.cell 0
    have j1 := hL1.cell 1
    have j2 := hL1.cell 2
    clear hv
    refine wp_region_ord [0, 1, 2, 3, 4, 5, 6, 7, 8, 9, 10, 11] 11 (fun w' => (w'.cell? ⟨M, 0, none⟩ = some (.slice A1 os.length c1) ∧ w'.cell? ⟨M, 1, none⟩ = some (.int .i64 q) ∧ w'.cell? ⟨M, 2, none⟩ = some (.slice A2 N c2)) ∧ Hid (∀ k, k < L.length → w'.cell? ⟨g, off + k, none⟩ = some (.int .i64 (gi L k)))) (by kernel_rfl) (by kernel_rfl) (by kernel_rfl) (fun _ _ _ _ _ h => h) ⟨⟨j0, j1, j2⟩, hide hcs⟩ ?_
    repeat (first | (apply ord_tk rfl (by rfl) (by rfl) (by rfl); (focus (intro wx hSw; obtain ⟨⟨t0, t1, t2⟩, t3⟩ := hSw; go_simp; (try with_reducible rfl))); (try simp only [Act.put, List.setIfInBounds_toArray, List.set_cons_zero, List.set_cons_succ])) | (apply ord_skip rfl (by rfl) (by rfl) (fun _ => hBe); (try simp only [Act.put, List.setIfInBounds_toArray, List.set_cons_zero, List.set_cons_succ])))
    replace hL := hL.all (wy := w9.drew) ((Below.refl _ _).drew) (by omega)
    replace hcs : ∀ k, k < L.length → w9.drew.cell? ⟨g, off + k, none⟩ = some (.int .i64 (gi L k)) := hcs
    replace hg : g < w9.drew.heap.size := hg
    clear hL1 j0 j1 j2 hO hsl
    refine ord_do rfl (by rfl) (by rfl) (fun K hK => ?_)
    go_simp
    refine (l01Next_any W0 _ _ S A n c 0 bs hb0 (by omega) hL.src (L.length : Int) ⟨by omega, by omega⟩).mono ?_
    rintro e wn ⟨y, rfl, ⟨y0, y1, -⟩, sn, gn⟩
    replace y1 := y1 (by omega)
    replace hL := hL.next hMS hRS hSw sn gn
    replace hcs : ∀ k, k < L.length → wn.cell? ⟨g, off + k, none⟩ = some (.int .i64 (gi L k)) := fun k hk => (cell_grown gn hg hgS).trans (hcs k hk)
    have zn : w9.heap.size ≤ wn.heap.size := gn.size
    replace hg : g < wn.heap.size := Nat.lt_of_lt_of_le hg gn.size
    clear sn gn
    have hL1 := hL.m
    rw [hNH.out] at hL1
    have hcH := hide hcs
    clear hcs
    refine hK.out _ _ (fun _ => ⟨⟨hL1.cell 0, hL1.cell 1, hL1.cell 2⟩, hcH⟩) ?_
    (try simp only [Act.put, List.setIfInBounds_toArray, List.set_cons_zero, List.set_cons_succ])
    clear hK K
    clear hL1
    obtain ⟨k, rfl⟩ := Int.eq_ofNat_of_zero_le y0
    have hkL : k < L.length := by omega
    have hgm := hG1.out _ (gi_mem hkL)
    obtain ⟨m, hm⟩ := Int.eq_ofNat_of_zero_le hgm.1
    rw [hm] at hgm
    have hmH := hide hm
    clear hm
    repeat (first | (apply ord_tk rfl (by rfl) (by rfl) (by rfl); (focus (intro wx hSw; obtain ⟨-, t3⟩ := hSw; have t4 := t3.out k hkL; rw [hmH.out] at t4; go_simp; (try with_reducible rfl))); (try simp only [Act.put, List.setIfInBounds_toArray, List.set_cons_zero, List.set_cons_succ])) | (apply ord_skip rfl (by rfl) (by rfl) (fun _ => hBe); (try simp only [Act.put, List.setIfInBounds_toArray, List.set_cons_zero, List.set_cons_succ])))
    refine ord_do rfl (by rfl) (by rfl) (fun K hK => ?_)
    go_simp
    refine (l11Members_any _ N m hN16 (by omega)).mono ?_
    rintro e wo ⟨v, rfl, hO, hb8⟩
    obtain ⟨Av, cv, rfl, hsl⟩ := hO.sl (fun x hx => by have := mems_rng x hx; exact ⟨by omega, by omega⟩)
    have hlo := hO.loB (m := (mems N m).length)
    have hml := mems_len N m
    replace hL := hL.all hb8 (by omega)
    have hcI := hide (show ∀ k, k < L.length → wo.cell? ⟨g, off + k, none⟩ = some (.int .i64 (gi L k)) from fun k hk => (hb8.cell (p := ⟨g, off + k, none⟩) hg).trans (hcH.out k hk))
    clear hO hb8 hcH
    have hL1 := hL.m
    rw [hNH.out] at hL1
    refine hK.out _ _ (fun _ => ⟨⟨hL1.cell 0, hL1.cell 1, hL1.cell 2⟩, hcI⟩) ?_
    (try simp only [Act.put, List.setIfInBounds_toArray, List.set_cons_zero, List.set_cons_succ])
    clear hK K
    have hf := put3_far (x := .slice A1 os.length c1) (y := .int .i64 q) (z := .slice A2 N c2) hL1 hMR
    clear hL1
    have hcJ := hide (show ∀ k, k < L.length → (put3 wo w.heap.size (.slice A1 os.length c1) (.int .i64 q) (.slice A2 N c2)).cell? ⟨g, off + k, none⟩ = some (.int .i64 (gi L k)) from fun k hk => (cell_put3 hgR).trans (hcI.out k hk))
    have hres := hL.res
    have lr := hres.lt
    have r0 := hres.cell 0
    have r1 := hres.cell 1
    have r2 := hres.cell 2
    have f0 := hres.frozen 0
    have f1 := hres.frozen 1
    have f2 := hres.frozen 2
    refine ord_do rfl (by rfl) (by rfl) (fun K hK => ?_)
    go_simp
    refine hK.out _ _ (fun _ => ⟨⟨hf.cell 0, hf.cell 1, hf.cell 2⟩, hcJ⟩) ?_
    (try simp only [Act.put, List.setIfInBounds_toArray, List.set_cons_zero, List.set_cons_succ])
    clear hK K
    refine ord_do rfl (by rfl) (by rfl) (fun K hK => ?_)
    go_simp
    refine hK.out _ _ (fun h => absurd h (by omega)) ?_
    (try simp only [Act.put, List.setIfInBounds_toArray, List.set_cons_zero, List.set_cons_succ])
    clear hK K
    refine ord_nil ?_
    go_wp2_with fail
    have hb3 := (put3_blk (x := .slice A1 os.length c1) (y := .int .i64 q) (z := .slice A2 N c2) hres)
    have q0 := hb3.cell 0
    have q1 := hb3.cell 1
    have q2 := hb3.cell 2
    unfold put3 at q0 q1 q2
    refine bodyPost_ret (v := .tuple #[.agg #[.slice A1 (List.length os) c1, .int .i64 q, .slice A2 N c2], .slice Av (mems N m).length cv]) (by simp [results, Tryz.results45, go_sem, q0, q1, q2, lr]) rfl ?_
    have hNe := hNH.out
    subst hNe
    exact hL.fin hG (by omega) hsl (fun b off sp e h => by have := hlo b off sp e h; omega)
   ·go_upto_region 14 with fail
    have hpos : 0 < L.length := List.length_pos_of_mem hG3.out
    have hL6 : L.length ≤ 65536 := hG2.out
    obtain ⟨Aw, cw, hv, hsl⟩ := hO.sl (fun x hx => by have := hG1.out x hx; exact ⟨by omega, by omega⟩)
    obtain ⟨rfl, rfl⟩ : Al = Aw ∧ cl = cw := by injection hv with a _ b; exact ⟨a, b⟩
    obtain ⟨g, off, rfl, hg, hcs⟩ := hsl.at_ hpos
    have hgS : g ≠ S := fun e => hL.src.e.ne hO g rfl (by rw [e])
    have hgR : g ≠ w.heap.size := by have := (hO.lt g rfl).1; omega
    have hL1 := hL.m
    rw [hNH.out] at hL1
    have j0 := hL1.cell 0
    have j1 := hL1.cell 1
    have j2 := hL1.cell 2
    clear hv
    refine wp_region_ord [0, 1, 2, 3, 4, 5, 6, 7, 8, 9, 10, 11] 11 (fun w' => (w'.cell? ⟨M, 0, none⟩ = some (.slice A1 os.length c1) ∧ w'.cell? ⟨M, 1, none⟩ = some (.int .i64 q) ∧ w'.cell? ⟨M, 2, none⟩ = some (.slice A2 N c2)) ∧ Hid (∀ k, k < L.length → w'.cell? ⟨g, off + k, none⟩ = some (.int .i64 (gi L k)))) (by kernel_rfl) (by kernel_rfl) (by kernel_rfl) (fun _ _ _ _ _ h => h) ⟨⟨j0, j1, j2⟩, hide hcs⟩ ?_
    repeat (first | (apply ord_tk rfl (by rfl) (by rfl) (by rfl); (focus (intro wx hSw; obtain ⟨⟨t0, t1, t2⟩, t3⟩ := hSw; go_simp; (try with_reducible rfl))); (try simp only [Act.put, List.setIfInBounds_toArray, List.set_cons_zero, List.set_cons_succ])) | (apply ord_skip rfl (by rfl) (by rfl) (fun _ => hBe); (try simp only [Act.put, List.setIfInBounds_toArray, List.set_cons_zero, List.set_cons_succ])))
    replace hL := hL.all (wy := w8.drew) ((Below.refl _ _).drew) (by omega)
    replace hcs : ∀ k, k < L.length → w8.drew.cell? ⟨g, off + k, none⟩ = some (.int .i64 (gi L k)) := hcs
    replace hg : g < w8.drew.heap.size := hg
    clear hL1 j0 j1 j2 hO hsl
    refine ord_do rfl (by rfl) (by rfl) (fun K hK => ?_)
    go_simp
    refine (l01Next_any W0 _ _ S A n c 0 bs hb0 (by omega) hL.src (L.length : Int) ⟨by omega, by omega⟩).mono ?_
    rintro e wn ⟨y, rfl, ⟨y0, y1, -⟩, sn, gn⟩
    replace y1 := y1 (by omega)
    replace hL := hL.next hMS hRS hSw sn gn
    replace hcs : ∀ k, k < L.length → wn.cell? ⟨g, off + k, none⟩ = some (.int .i64 (gi L k)) := fun k hk => (cell_grown gn hg hgS).trans (hcs k hk)
    have zn : w8.heap.size ≤ wn.heap.size := gn.size
    replace hg : g < wn.heap.size := Nat.lt_of_lt_of_le hg gn.size
    clear sn gn
    have hL1 := hL.m
    rw [hNH.out] at hL1
    have hcH := hide hcs
    clear hcs
    refine hK.out _ _ (fun _ => ⟨⟨hL1.cell 0, hL1.cell 1, hL1.cell 2⟩, hcH⟩) ?_
    (try simp only [Act.put, List.setIfInBounds_toArray, List.set_cons_zero, List.set_cons_succ])
    clear hK K
    clear hL1
    obtain ⟨k, rfl⟩ := Int.eq_ofNat_of_zero_le y0
    have hkL : k < L.length := by omega
    have hgm := hG1.out _ (gi_mem hkL)
    obtain ⟨m, hm⟩ := Int.eq_ofNat_of_zero_le hgm.1
    rw [hm] at hgm
    have hmH := hide hm
    clear hm
    repeat (first | (apply ord_tk rfl (by rfl) (by rfl) (by rfl); (focus (intro wx hSw; obtain ⟨-, t3⟩ := hSw; have t4 := t3.out k hkL; rw [hmH.out] at t4; go_simp; (try with_reducible rfl))); (try simp only [Act.put, List.setIfInBounds_toArray, List.set_cons_zero, List.set_cons_succ])) | (apply ord_skip rfl (by rfl) (by rfl) (fun _ => hBe); (try simp only [Act.put, List.setIfInBounds_toArray, List.set_cons_zero, List.set_cons_succ])))
    refine ord_do rfl (by rfl) (by rfl) (fun K hK => ?_)
    go_simp
    refine (l11Members_any _ N m hN16 (by omega)).mono ?_
    rintro e wo ⟨v, rfl, hO, hb8⟩
    obtain ⟨Av, cv, rfl, hsl⟩ := hO.sl (fun x hx => by have := mems_rng x hx; exact ⟨by omega, by omega⟩)
    have hlo := hO.loB (m := (mems N m).length)
    have hml := mems_len N m
    replace hL := hL.all hb8 (by omega)
    have hcI := hide (show ∀ k, k < L.length → wo.cell? ⟨g, off + k, none⟩ = some (.int .i64 (gi L k)) from fun k hk => (hb8.cell (p := ⟨g, off + k, none⟩) hg).trans (hcH.out k hk))
    clear hO hb8 hcH
    have hL1 := hL.m
    rw [hNH.out] at hL1
    refine hK.out _ _ (fun _ => ⟨⟨hL1.cell 0, hL1.cell 1, hL1.cell 2⟩, hcI⟩) ?_
    (try simp only [Act.put, List.setIfInBounds_toArray, List.set_cons_zero, List.set_cons_succ])
    clear hK K
    have hf := put3_far (x := .slice A1 os.length c1) (y := .int .i64 q) (z := .slice A2 N c2) hL1 hMR
    clear hL1
    have hcJ := hide (show ∀ k, k < L.length → (put3 wo w.heap.size (.slice A1 os.length c1) (.int .i64 q) (.slice A2 N c2)).cell? ⟨g, off + k, none⟩ = some (.int .i64 (gi L k)) from fun k hk => (cell_put3 hgR).trans (hcI.out k hk))
    have hres := hL.res
    have lr := hres.lt
    have r0 := hres.cell 0
    have r1 := hres.cell 1
    have r2 := hres.cell 2
    have f0 := hres.frozen 0
    have f1 := hres.frozen 1
    have f2 := hres.frozen 2
    refine ord_do rfl (by rfl) (by rfl) (fun K hK => ?_)
    go_simp
    refine hK.out _ _ (fun _ => ⟨⟨hf.cell 0, hf.cell 1, hf.cell 2⟩, hcJ⟩) ?_
    (try simp only [Act.put, List.setIfInBounds_toArray, List.set_cons_zero, List.set_cons_succ])
    clear hK K
    refine ord_do rfl (by rfl) (by rfl) (fun K hK => ?_)
    go_simp
    refine hK.out _ _ (fun h => absurd h (by omega)) ?_
    (try simp only [Act.put, List.setIfInBounds_toArray, List.set_cons_zero, List.set_cons_succ])
    clear hK K
    refine ord_nil ?_
    go_wp2_with fail
    have hb3 := (put3_blk (x := .slice A1 os.length c1) (y := .int .i64 q) (z := .slice A2 N c2) hres)
    have q0 := hb3.cell 0
    have q1 := hb3.cell 1
    have q2 := hb3.cell 2
    unfold put3 at q0 q1 q2
    refine bodyPost_ret (v := .tuple #[.agg #[.slice A1 (List.length os) c1, .int .i64 q, .slice A2 N c2], .slice Av (mems N m).length cv]) (by simp [results, Tryz.results45, go_sem, q0, q1, q2, lr]) rfl ?_
    have hNe := hNH.out
    subst hNe
    exact hL.fin hG (by omega) hsl (fun b off sp e h => by have := hlo b off sp e h; omega)
theorem LoB.s {w : World} {L S : Nat} {A : Option Addr} {n c : Nat} {xs : List Int} (h : LoB L A n) (hs : Sl w w.heap.size A n c xs) (hL : S < L) : SlS w S A n c xs := ⟨hs, fun b off sp e hn => by have := h b off sp e hn; omega⟩
set_option maxRecDepth 100000 in
set_option maxHeartbeats 4000000 in
theorem drawCond_any (w : World) (A : Option Addr) (n c : Nat) (bs : List Int) (hb : SlB w w.heap.size A n c bs) (hn : n ≤ 4096) : Calls Tryz.prog 7 #[.slice A n c] w (DSb w) := by
 go_enter Tryz.func7, Tryz.ntmps7
 obtain ⟨W0, hW0⟩ : ∃ W0, w.alloc (.cells #[.slice none 0 0, .int .i64 0, .slice none 0 0] 26) = W0 := ⟨_, rfl⟩
 have bR : Blk W0 w.heap.size 26 #[.slice none 0 0, .int .i64 0, .slice none 0 0] := by rw [← hW0]; exact Blk.new _ _ _
 have k0 : Below w.heap.size w W0 := by rw [← hW0]; exact (by repeat (first | assumption | exact Below.refl _ _ | apply below_drewN | apply Below.drew | apply Below.alloc | apply Below.setCell | omega | (focus (simp; done)) | (focus (simp; omega))))
 have z0 : W0.heap.size = w.heap.size + 1 := by rw [← hW0]; simp
 have hb0 : SlB W0 W0.heap.size A n c bs := ⟨hb.len, hb.cap, hb.rng, fun h => by
  obtain ⟨b, off, e, hlt, hc⟩ := hb.at_ h
  exact ⟨b, off, e, by omega, fun k hk => (k0.cell (p := ⟨b, off + k, none⟩) hlt).trans (hc k hk)⟩⟩
 go_wp2_with fail
 clear hW0
 refine (l11Sub_any W0 A n c bs hb0 hn true).mono ?_
 rintro e w1 ⟨A1, c1, A2, c2, os, q, vs, L, lc, xs, rfl, hG, hx, t1, t2, t3, ⟨l1, l2, l3⟩, hr, hb1⟩
 have u1 := l1.s t1 (show w.heap.size < _ by omega)
 have u2 := l2.s t2 (show w.heap.size < _ by omega)
 have u3 := l3.s t3 (show w.heap.size < _ by omega)
 replace bR := bR.below hb1 (by omega)
 have k1 := k0.trans (hb1.mono (by omega))
 clear t1 t2 t3
 obtain ⟨W2, hW2⟩ : ∃ W2, w1.alloc (.cells #[.slice A1 os.length c1, .int .i64 q, .slice A2 vs.length c2] 26) = W2 := ⟨_, rfl⟩
 replace u1 := u1.alloc (.cells #[.slice A1 os.length c1, .int .i64 q, .slice A2 vs.length c2] 26)
 replace u2 := u2.alloc (.cells #[.slice A1 os.length c1, .int .i64 q, .slice A2 vs.length c2] 26)
 replace u3 := u3.alloc (.cells #[.slice A1 os.length c1, .int .i64 q, .slice A2 vs.length c2] 26)
 replace bR := bR.alloc (.cells #[.slice A1 os.length c1, .int .i64 q, .slice A2 vs.length c2] 26)
 have lm : w1.heap.size < W2.heap.size := by rw [← hW2]; simp
 have bM : Blk W2 w1.heap.size 26 #[.slice A1 os.length c1, .int .i64 q, .slice A2 vs.length c2] := by rw [← hW2]; exact Blk.new _ _ _
 have k2 : Below w.heap.size w W2 := by rw [← hW2]; exact k1.alloc (by have := k1.size; omega) _
 rw [hW2] at u1 u2 u3 bR
 have j0 := bM.cell 0
 have j1 := bM.cell 1
 have j2 := bM.cell 2
 have hres := bR
 have lr := hres.lt
 have r0 := hres.cell 0
 have r1 := hres.cell 1
 have r2 := hres.cell 2
 have f0 := hres.frozen 0
 have f1 := hres.frozen 1
 have f2 := hres.frozen 2
 go_upto_region 2 with fail
 clear hW2
 go_wp2_with fail
 have hb3 := (put3_blk (x := .slice A1 os.length c1) (y := .int .i64 q) (z := .slice A2 vs.length c2) hres)
 have q0 := hb3.cell 0
 have q1 := hb3.cell 1
 have q2 := hb3.cell 2
 unfold put3 at q0 q1 q2
 refine bodyPost_ret (v := .tuple #[.agg #[.slice A1 (List.length os) c1, .int .i64 q, .slice A2 (List.length vs) c2], .slice L xs.length lc]) (by simp [results, Tryz.results7, go_sem, q0, q1, q2, lr]) rfl ?_
 have o1 := slS_out (x := .slice A1 os.length c1) (y := .int .i64 q) (z := .slice A2 vs.length c2) u1 l1 (show w.heap.size < _ by omega)
 have o2 := slS_out (x := .slice A1 os.length c1) (y := .int .i64 q) (z := .slice A2 vs.length c2) u2 l2 (show w.heap.size < _ by omega)
 have o3 := slS_out (x := .slice A1 os.length c1) (y := .int .i64 q) (z := .slice A2 vs.length c2) u3 l3 (show w.heap.size < _ by omega)
 rw [z0] at l1 l2 l3
 exact ⟨A1, c1, A2, c2, os, q, vs, L, lc, xs, rfl, hG, hx, o1, o2, o3, ⟨l1.less (Nat.le_succ _), l2.less (Nat.le_succ _), l3.less (Nat.le_succ _)⟩, hr, put3_below k2 (Nat.le_refl _)⟩
/-- What stood in W3, but for the source, stands. -/
structure LfS (W0 W3 : World) (S : Nat) (A : Option Addr) (n c : Nat) (wx : World) : Prop where
 kp : ∀ b, b < W3.heap.size → b ≠ S → wx.heap[b]? = W3.heap[b]?
 sz : W3.heap.size ≤ wx.heap.size
 src : Src W0 W0.heap.size S A n c 0 wx
section
variable {w W0 W3 wx wy : World} {S : Nat} {A : Option Addr} {n c M R : Nat} {A1 A2 : Option Addr} {c1 c2 : Nat} {os vs : List Int} {q : Int}
theorem LfS.next (h : LfS W0 W3 S A n c wx) (hs : Src W0 W0.heap.size S A n c 0 wy) (g : wx.grownBy wy (some S)) : LfS W0 W3 S A n c wy :=
 ⟨fun b hb hne => (g.block b (Nat.lt_of_lt_of_le hb h.sz) (fun e => hne (Option.some.inj e))).trans (h.kp b hb hne), Nat.le_trans h.sz g.size, hs⟩
theorem LfS.low (h : LfS W0 W3 S A n c wx) (hs : Src W0 W0.heap.size S A n c 0 wy) (g : Below W3.heap.size wx wy) : LfS W0 W3 S A n c wy :=
 ⟨fun b hb hne => (g.block b hb).trans (h.kp b hb hne), Nat.le_trans h.sz g.size, hs⟩
theorem LfS.alloc (h : LfS W0 W3 S A n c wx) (o : Obj) : LfS W0 W3 S A n c (wx.alloc o) :=
 h.low (h.src.alloc o) ((Below.refl _ _).alloc h.sz o)
theorem LfS.blk (h : LfS W0 W3 S A n c wx) {g : Nat} {t : TypeId} {cs : Array Value} (hb : Blk W3 g t cs) (hne : g ≠ S) : Blk wx g t cs := (h.kp g hb.lt hne).trans hb
end
end Go.Proofs.YtbpihnpakolooaaGreatDoor
