
/- The walks of coboundary of the program, of CoboundaryOf of both sides, and of its law. -/
import Derived.Test.YtnhgflmmfppmnaaCO3
import Derived.Test.YtnhgflmmfppmnaaKRw
import Derived.Test.YtnhgflmmfppmnaaKCw
import Derived.Test.YtnhgflmmfppmnaaCB4
namespace Go.Proofs.Ytnhgflmmfppmnaa
open Go Go.RowKit Grp
set_option linter.unusedSimpArgs false
set_option linter.unusedVariables false
set_option maxRecDepth 100000
theorem cob4' {M a b c d : Int} (m1 : 1 ≤ M) (m2 : M ≤ 1000) (ha : 0 ≤ a ∧ a ≤ M - 1) (hb : 0 ≤ b ∧ b ≤ M - 1) (hc : 0 ≤ c ∧ c ≤ M - 1) (hd : 0 ≤ d ∧ d ≤ M - 1) :
    IntKind.i64.wrap (a - b) = a - b ∧ IntKind.i64.wrap (a - b + c) = a - b + c ∧ IntKind.i64.wrap (a - b + c - d) = a - b + c - d :=
  ⟨(cob4 m1 m2 ha hb hc hd).1, (cob4 m1 m2 ha hb hc hd).2.1, (cob4 m1 m2 ha hb hc hd).2.2.1⟩
set_option maxHeartbeats 4000000 in
theorem cobF_any (w : World) (p q : Nat) (A : Option Addr) (n c : Nat) (os : List Int) (M : Int) (b off k e : Nat) (b1 o1 c1 : Nat → Nat) (f : List (List Int)) (x y z : Nat) (hp : w.cell? ⟨p, 0, none⟩ = some (.slice (some ⟨b, off, none⟩) k e))
    (hq : Blk w q 37 #[.slice A n c, .int .i64 M, .slice none 0 0]) (h : Sl w w.heap.size A n c os) (V : Vw w w.heap.size k b off b1 o1 c1 (gf f)) (hH : OkH os) (hk : (k : Int) = prodL os) (hk8 : k ≤ 8) (m1 : 1 ≤ M) (m2 : M ≤ 1000) (hf : MatM k M f) (hx : x < k) (hy : y < k) (hz : z < k) :
    Calls Try.prog 44 #[.int .i64 x, .int .i64 y, .int .i64 z, .pointer (some ⟨p, 0, none⟩), .pointer (some ⟨q, 0, none⟩)] w (Re w (.int .i64 (cob2 os f x y z))) := by
  have hA := fun x y => An_lt hH hk x y
  obtain ⟨i1, ei1⟩ : ∃ i, An os x y = i := ⟨_, rfl⟩
  obtain ⟨i2, ei2⟩ : ∃ i, An os y z = i := ⟨_, rfl⟩
  have hi1 : i1 < k := by rw [← ei1]; exact hA x y
  have hi2 : i2 < k := by rw [← ei2]; exact hA y z
  have H1 := hide (fun W (hW : Below w.heap.size w W) => by
    have h9 := plus_any W A n c os (.int .i64 M) (.slice none 0 0) x y ((h.below hW).more hW.size) hH (by omega) (by omega)
    rw [ei1] at h9
    exact h9)
  have H2 := hide (fun W (hW : Below w.heap.size w W) => by
    have h9 := plus_any W A n c os (.int .i64 M) (.slice none 0 0) y z ((h.below hW).more hW.size) hH (by omega) (by omega)
    rw [ei2] at h9
    exact h9)
  have hco : cob2 os f x y z = gf f y z - gf f i1 z + gf f x i2 - gf f x y := by unfold cob2; rw [ei1, ei2]
  obtain ⟨q1, q2, q3⟩ := cob4' m1 m2 (hf.rng hy hz) (hf.rng hi1 hz) (hf.rng hx hi2) (hf.rng hx hy)
  have HV := hide V
  have hf1 := hide (V.h2 y z hy hz)
  have hf2 := hide (V.h2 i1 z hi1 hz)
  have hf3 := hide (V.h2 x i2 hx hi2)
  have hf4 := hide (V.h2 x y hx hy)
  have hl1 := (V.h1 y hy).2
  have hl2 := (V.h1 i1 hi1).2
  have hl3 := (V.h1 x hx).2
  obtain ⟨v1, ev1⟩ : ∃ v, gf f y z = v := ⟨_, rfl⟩
  obtain ⟨v2, ev2⟩ : ∃ v, gf f i1 z = v := ⟨_, rfl⟩
  obtain ⟨v3, ev3⟩ : ∃ v, gf f x i2 = v := ⟨_, rfl⟩
  obtain ⟨v4, ev4⟩ : ∃ v, gf f x y = v := ⟨_, rfl⟩
  rw [ev1] at hf1
  rw [ev2] at hf2
  rw [ev3] at hf3
  rw [ev4] at hf4
  simp only [ev1, ev2, ev3, ev4] at q1 q2 q3 hco
  rw [hco]
  have HP := hide hp
  have hpl : p < w.heap.size := World.block_lt_of_cell? _ _ hp
  have hql := hq.lt
  have HQ0 := hide (hq.cell 0)
  have HQ1 := hide (hq.cell 1)
  have HQ2 := hide (hq.cell 2)
  clear hA ei1 ei2 hco hf ev1 ev2 ev3 ev4 hk hp hq h V
  go_enter Try.func44, Try.ntmps44
  go_wp2_with fail
  refine wp_region_be [0, 1, 2, 3, 4, 5, 6, 7, 8, 9, 10, 14, 18, 19, 20, 21, 22, 23, 24, 29, 30, 31, 32, 33, 34, 35, 11, 12, 13, 15, 16, 17, 25, 26, 27, 28, 36, 37] 37 w.heap.size w (by kernel_rfl) (by kernel_rfl) (by kernel_rfl) (fun _ _ _ _ _ h => h) (Below.refl _ _) (fun wd hBe => ?_)
  repeat (first | (apply ord_tk rfl (by rfl) (by rfl) (by rfl); (focus (intro wx hSw; have V9 := HV.out.keep hSw hSw.size; have r1 := (V9.h1 y hy).1; have r2 := (V9.h1 i1 hi1).1; have r3 := (V9.h1 x hx).1; clear V9; have r4 := (hSw.cell (p := ⟨b1 y, o1 y + z, none⟩) hl1).trans hf1.out; have r5 := (hSw.cell (p := ⟨b1 i1, o1 i1 + z, none⟩) hl2).trans hf2.out; have r6 := (hSw.cell (p := ⟨b1 x, o1 x + i2, none⟩) hl3).trans hf3.out; have r7 := (hSw.cell (p := ⟨b1 x, o1 x + y, none⟩) hl3).trans hf4.out; have t0 := (hSw.cell (p := ⟨p, 0, none⟩) hpl).trans HP.out; have t1 := (hSw.cell (p := ⟨q, 0, none⟩) hql).trans HQ0.out; have t2 := (hSw.cell (p := ⟨q, 1, none⟩) hql).trans HQ1.out; have t3 := (hSw.cell (p := ⟨q, 2, none⟩) hql).trans HQ2.out; go_simp; (try with_reducible rfl))); (try simp only [Act.put, List.setIfInBounds_toArray, List.set_cons_zero, List.set_cons_succ])) | (apply ord_skip rfl (by rfl) (by rfl) (fun _ => hBe); (try simp only [Act.put, List.setIfInBounds_toArray, List.set_cons_zero, List.set_cons_succ])))
  refine ord_do rfl (by rfl) (by rfl) (fun K hK => ?_)
  go_simp
  refine (H1.out _ hBe).mono ?_
  rintro e wd' ⟨rfl, hwd⟩
  replace hBe := hBe.trans (hwd.mono hBe.size)
  clear hwd
  refine hK.out _ _ (fun _ => hBe) ?_
  (try simp only [Act.put, List.setIfInBounds_toArray, List.set_cons_zero, List.set_cons_succ])
  clear hK K
  repeat (first | (apply ord_tk rfl (by rfl) (by rfl) (by rfl); (focus (intro wx hSw; have V9 := HV.out.keep hSw hSw.size; have r1 := (V9.h1 y hy).1; have r2 := (V9.h1 i1 hi1).1; have r3 := (V9.h1 x hx).1; clear V9; have r4 := (hSw.cell (p := ⟨b1 y, o1 y + z, none⟩) hl1).trans hf1.out; have r5 := (hSw.cell (p := ⟨b1 i1, o1 i1 + z, none⟩) hl2).trans hf2.out; have r6 := (hSw.cell (p := ⟨b1 x, o1 x + i2, none⟩) hl3).trans hf3.out; have r7 := (hSw.cell (p := ⟨b1 x, o1 x + y, none⟩) hl3).trans hf4.out; have t0 := (hSw.cell (p := ⟨p, 0, none⟩) hpl).trans HP.out; have t1 := (hSw.cell (p := ⟨q, 0, none⟩) hql).trans HQ0.out; have t2 := (hSw.cell (p := ⟨q, 1, none⟩) hql).trans HQ1.out; have t3 := (hSw.cell (p := ⟨q, 2, none⟩) hql).trans HQ2.out; go_simp; (try with_reducible rfl))); (try simp only [Act.put, List.setIfInBounds_toArray, List.set_cons_zero, List.set_cons_succ])) | (apply ord_skip rfl (by rfl) (by rfl) (fun _ => hBe); (try simp only [Act.put, List.setIfInBounds_toArray, List.set_cons_zero, List.set_cons_succ])))
  refine ord_do rfl (by rfl) (by rfl) (fun K hK => ?_)
  go_simp
  refine (H2.out _ hBe).mono ?_
  rintro e wd' ⟨rfl, hwd⟩
  replace hBe := hBe.trans (hwd.mono hBe.size)
  clear hwd
  refine hK.out _ _ (fun _ => hBe) ?_
  (try simp only [Act.put, List.setIfInBounds_toArray, List.set_cons_zero, List.set_cons_succ])
  clear hK K
  repeat (first | (apply ord_tk rfl (by rfl) (by rfl) (by rfl); (focus (intro wx hSw; have V9 := HV.out.keep hSw hSw.size; have r1 := (V9.h1 y hy).1; have r2 := (V9.h1 i1 hi1).1; have r3 := (V9.h1 x hx).1; clear V9; have r4 := (hSw.cell (p := ⟨b1 y, o1 y + z, none⟩) hl1).trans hf1.out; have r5 := (hSw.cell (p := ⟨b1 i1, o1 i1 + z, none⟩) hl2).trans hf2.out; have r6 := (hSw.cell (p := ⟨b1 x, o1 x + i2, none⟩) hl3).trans hf3.out; have r7 := (hSw.cell (p := ⟨b1 x, o1 x + y, none⟩) hl3).trans hf4.out; have t0 := (hSw.cell (p := ⟨p, 0, none⟩) hpl).trans HP.out; have t1 := (hSw.cell (p := ⟨q, 0, none⟩) hql).trans HQ0.out; have t2 := (hSw.cell (p := ⟨q, 1, none⟩) hql).trans HQ1.out; have t3 := (hSw.cell (p := ⟨q, 2, none⟩) hql).trans HQ2.out; go_simp; (try with_reducible rfl))); (try simp only [Act.put, List.setIfInBounds_toArray, List.set_cons_zero, List.set_cons_succ])) | (apply ord_skip rfl (by rfl) (by rfl) (fun _ => hBe); (try simp only [Act.put, List.setIfInBounds_toArray, List.set_cons_zero, List.set_cons_succ])))
  refine ord_do rfl (by rfl) (by rfl) (fun K hK => ?_)
  go_simp
  refine hK.out _ _ (fun h => absurd h (by omega)) ?_
  (try simp only [Act.put, List.setIfInBounds_toArray, List.set_cons_zero, List.set_cons_succ])
  clear hK K
  refine ord_nil ?_
  go_wp2_with fail
  go_ret
  exact ⟨rfl, hBe⟩
set_option maxHeartbeats 8000000 in
theorem cby_cob (w : World) (A : Option Addr) (nn c : Nat) (os : List Int) (M : Int) (p q : Nat) (num : Nat → Nat → Nat → Int) (h : Sl w w.heap.size A nn c os) (hn : nn ≤ 1048576) (hH : OkH os) (hp8 : prodL os ≤ 8) (m1 : 1 ≤ M) (m2 : M ≤ 1000)
    (hcall : ∀ x y z, x < (prodL os).toNat → y < (prodL os).toNat → z < (prodL os).toNat → ∀ wd, Below w.heap.size w wd → Calls Try.prog 44 #[.int .i64 x, .int .i64 y, .int .i64 z, .pointer (some ⟨p, 0, none⟩), .pointer (some ⟨q, 0, none⟩)] wd (Re wd (.int .i64 (num x y z)))) :
    Calls Try.prog 43 #[.slice A nn c, .int .i64 M, .func (.func 44) #[] #[.pointer (some ⟨p, 0, none⟩), .pointer (some ⟨q, 0, none⟩)]] w (MkE cocycle_E w (os, M, cub (prodL os).toNat fun x y z => num x y z % M)) := by
  obtain rfl := h.len
  have hp1 := hH.ge
  obtain ⟨n, hN⟩ : ∃ n : Nat, (prodL os).toNat = n := ⟨_, rfl⟩
  have hnp : prodL os = n := by omega
  rw [hN] at hcall ⊢
  have HC := hide hcall
  have hgs := fun W B (hW : Sl W B A os.length c os) => groupSize_any W B A os.length c os hW hn
  have hgz : gsz os = n := by rw [gsz_ok ⟨hH.l1, hH.m1⟩]; omega
  rw [hgz] at hgs
  have HG := hide hgs
  have hn8 : n ≤ 8 := by omega
  have hn1 : 1 ≤ n := by omega
  clear hcall hgs hgz hN hnp hp1 hp8
  go_enter Try.func43, Try.ntmps43
  go_wp2_with fail
  have hb0 : Below w.heap.size w (w.alloc (.cells #[.slice none 0 0, .int .i64 0, .slice none 0 0] 37)) := (Below.refl _ _).alloc (Nat.le_refl _) _
  have br0 : Blk (w.alloc (.cells #[.slice none 0 0, .int .i64 0, .slice none 0 0] 37)) w.heap.size 37 #[.slice none 0 0, .int .i64 0, .slice none 0 0] := Blk.new _ _ _
  refine ((clone_any _ w.heap.size _ _ _ _ (h.below hb0) (by simp) hn).mono fun _ _ hh => mkE1 hh h.rng).mono ?_
  rintro e w1 ⟨vo, rfl, ho, hb1⟩
  obtain ⟨Ao, co, rfl, _⟩ := ho.sl
  have hb1' := hb0.trans (hb1.mono (by simp))
  have br1 := br0.all hb1
  have hsz1 := hb1.size
  simp only [World.size_alloc] at hsz1 ho
  go_wp2_with fail
  refine (HG.out _ _ (h.below hb1')).mono ?_
  rintro e w2 ⟨rfl, d, rfl⟩
  obtain ⟨w2, hw2⟩ : ∃ w2, w1.drewN d = w2 := ⟨_, rfl⟩
  have hb2 : Below w1.heap.size w1 w2 := by rw [← hw2]; exact below_drewN (Below.refl _ _) _
  have br2 := br1.all hb2
  have ho2 := E1.below ho hb2
  have hb2' := hb1'.trans (hb2.mono hb1'.size)
  have hs2 : w2.heap.size = w1.heap.size := by rw [← hw2]; rfl
  rw [hw2]
  clear hw2 hb0 br0 br1
  obtain ⟨g, hg⟩ : ∃ g, w1.heap.size = g := ⟨_, rfl⟩
  rw [hg] at hsz1 ho2 hs2
  go_wp2_with fail
  obtain ⟨w3, hw3⟩ : ∃ w3, w2.alloc (.cells #[.slice Ao os.length co, .int .i64 M, .slice none 0 0] 37) = w3 := ⟨_, rfl⟩
  have hC3 : CBy w w.heap.size g (.slice Ao os.length co) os M (.slice none 0 0) [] w3 := by
    rw [← hw3]
    refine ⟨br2.alloc _, Blk.new' _ _ _ _ hs2, E1.mono (E1.below ho2 ((Below.refl _ _).alloc (Nat.le_refl _) _)) (fun b hb => ⟨by have := hb.1; omega, hb.2⟩) (fun b hb => by have := hb.2; simp; omega), Grow.nil _, Nat.le_refl _, by omega, hb2'.alloc hb2'.size _⟩
  try rw [hg]
  rw [hw3]
  clear hw3 br2 ho2 hb2' hs2 ho hb1 hb1' hb2 hg hsz1
  go_loopw [20] (fun i wr => ∃ (k : Nat) (vv : Value), k ≤ n ∧ i = .int .i64 k ∧ CBy w w.heap.size g (.slice Ao os.length co) os M vv ((List.range k).map fun x => mat n fun y z => num x y z % M) wr) (fun i _ => n - (intOf i).toNat)
  case atStart => exact ⟨0, _, by omega, rfl, hC3⟩
  case round =>
    clear hC3
    obtain ⟨k, vv, hk, rfl, hCB⟩ := hrel
    by_cases hlk : k < n
    · obtain ⟨w4, rfl⟩ : ∃ w4, w4 = wr := ⟨_, rfl⟩
      have hw4 := hCB.below.size
      have hg4 := hCB.out.lt
      go_wp2_with fail
      refine (zeros_any w4 n n (by omega) (by omega)).mono ?_
      rintro e w5 ⟨vr, rfl, hGr, hb5⟩
      have hEr := hGr.toL
      obtain ⟨Ar', cr, rfl⟩ := hGr.val
      rw [List.length_replicate] at hEr hGr ⊢
      rw [← pm_zero n fun y z => num k y z % M] at hEr
      obtain ⟨S5, hS5⟩ : ∃ S5, w5.heap.size = S5 := ⟨_, rfl⟩
      have hE5 : E2 w5 (.slice Ar' n cr) (pm n (fun y z => num k y z % M) 0 0) (fun b => w4.heap.size ≤ b ∧ b < S5) := by rw [← hS5]; exact hEr
      clear hEr hGr hS5
      go_wp2_with fail
      go_loopw [27] (fun i wx => ∃ y : Nat, y ≤ n ∧ i = .int .i64 y ∧ E2 wx (.slice Ar' n cr) (pm n (fun y z => num k y z % M) y 0) (fun b => w4.heap.size ≤ b ∧ b < S5) ∧ Below w4.heap.size w4 wx) (fun i _ => n - (intOf i).toNat)
      case atStart => exact ⟨0, by omega, rfl, hE5, hb5⟩
      case round =>
        clear hE5 hb5
        obtain ⟨y, hy, rfl, hE5, hb5⟩ := hrel
        by_cases hly : y < n
        · go_wp2_with fail
          go_loopw [31] (fun i wx => ∃ z : Nat, z ≤ n ∧ i = .int .i64 z ∧ E2 wx (.slice Ar' n cr) (pm n (fun y z => num k y z % M) y z) (fun b => w4.heap.size ≤ b ∧ b < S5) ∧ Below w4.heap.size w4 wx) (fun i _ => n - (intOf i).toNat)
          case atStart => exact ⟨0, by omega, rfl, hE5, hb5⟩
          case round =>
            clear hE5 hb5
            obtain ⟨z, hz, rfl, hE5, hb5⟩ := hrel
            by_cases hlz : z < n
            · have hm0 := Int.emod_nonneg (num k y z) (show M ≠ 0 by omega)
              have hm1 := Int.emod_lt_of_pos (num k y z) (show 0 < M by omega)
              obtain ⟨gr, g2, cr', c2, ev, hgr, hg2, x1, ⟨u, x2⟩, x3, x4, HL⟩ := E2.later hE5 hly hlz ⟨by omega, by omega⟩
              injection ev with ev1 _ ev2
              subst ev1
              subst ev2
              have HLA := hide HL
              have hCx := hCB.bel hb5
              have y0 := hCx.out.cell 0
              have y1 := hCx.out.cell 1
              have y2 := hCx.out.cell 2
              have hgx := hCx.out.lt
              have hcl := HC.out k y z hlk hly hlz
              obtain ⟨q, hq⟩ : ∃ q, num k y z = q := ⟨_, rfl⟩
              rw [hq] at hcl hm0 hm1
              have HQ := hide hq
              have HCL := hide hcl
              have X1 := hide x1
              have X2 := hide x2
              have X3 := hide x3
              have Y0 := hide y0
              have Y1 := hide y1
              have Y2 := hide y2
              clear HL hcl hq x1 x2 x3 y0 y1 y2
              obtain ⟨w6, rfl⟩ : ∃ w6, w6 = wr := ⟨_, rfl⟩
              have hb6w := hCx.below
              go_wp2_with fail
              refine wp_region_be [0, 1, 2, 3, 4, 5, 6, 7, 8, 9, 10, 11, 12, 13] 12 w6.heap.size w6 (by kernel_rfl) (by kernel_rfl) (by kernel_rfl) (fun _ _ _ _ _ h => h) (Below.refl _ _) (fun wd hBe => ?_)
              repeat (first | (apply ord_tk rfl (by rfl) (by rfl) (by rfl); (focus (intro wx hSw; have r0 := (hSw.cell (p := ⟨g, 0, none⟩) hgx).trans Y0.out; have r1 := (hSw.cell (p := ⟨g, 1, none⟩) hgx).trans Y1.out; have r2 := (hSw.cell (p := ⟨g, 2, none⟩) hgx).trans Y2.out; have r3 := (hSw.cell (p := ⟨gr, y, none⟩) hgr).trans X1.out; go_simp; (try with_reducible rfl))); (try simp only [Act.put, List.setIfInBounds_toArray, List.set_cons_zero, List.set_cons_succ])) | (apply ord_skip rfl (by rfl) (by rfl) (fun _ => hBe); (try simp only [Act.put, List.setIfInBounds_toArray, List.set_cons_zero, List.set_cons_succ])))
              refine ord_do rfl (by rfl) (by rfl) (fun K hK => ?_)
              go_simp
              refine (HCL.out _ (hb6w.trans (hBe.mono hb6w.size))).mono ?_
              rintro e wd' ⟨rfl, hwd⟩
              replace hBe := hBe.trans (hwd.mono hBe.size)
              clear hwd
              refine hK.out _ _ (fun _ => hBe) ?_
              (try simp only [Act.put, List.setIfInBounds_toArray, List.set_cons_zero, List.set_cons_succ])
              clear hK K
              repeat (first | (apply ord_tk rfl (by rfl) (by rfl) (by rfl); (focus (intro wx hSw; have r0 := (hSw.cell (p := ⟨g, 0, none⟩) hgx).trans Y0.out; have r1 := (hSw.cell (p := ⟨g, 1, none⟩) hgx).trans Y1.out; have r2 := (hSw.cell (p := ⟨g, 2, none⟩) hgx).trans Y2.out; have r3 := (hSw.cell (p := ⟨gr, y, none⟩) hgr).trans X1.out; go_simp; (try with_reducible rfl))); (try simp only [Act.put, List.setIfInBounds_toArray, List.set_cons_zero, List.set_cons_succ])) | (apply ord_skip rfl (by rfl) (by rfl) (fun _ => hBe); (try simp only [Act.put, List.setIfInBounds_toArray, List.set_cons_zero, List.set_cons_succ])))
              refine ord_do rfl (by rfl) (by rfl) (fun K hK => ?_)
              go_simp
              refine (restC_any _ _ _ M q m1 (by omega)).mono ?_
              rintro e wd' ⟨rfl, hwd⟩
              replace hBe := hBe.trans (hwd.mono hBe.size)
              clear hwd
              refine hK.out _ _ (fun _ => hBe) ?_
              (try simp only [Act.put, List.setIfInBounds_toArray, List.set_cons_zero, List.set_cons_succ])
              clear hK K
              repeat (first | (apply ord_tk rfl (by rfl) (by rfl) (by rfl); (focus (intro wx hSw; have r0 := (hSw.cell (p := ⟨g, 0, none⟩) hgx).trans Y0.out; have r1 := (hSw.cell (p := ⟨g, 1, none⟩) hgx).trans Y1.out; have r2 := (hSw.cell (p := ⟨g, 2, none⟩) hgx).trans Y2.out; have r3 := (hSw.cell (p := ⟨gr, y, none⟩) hgr).trans X1.out; go_simp; (try with_reducible rfl))); (try simp only [Act.put, List.setIfInBounds_toArray, List.set_cons_zero, List.set_cons_succ])) | (apply ord_skip rfl (by rfl) (by rfl) (fun _ => hBe); (try simp only [Act.put, List.setIfInBounds_toArray, List.set_cons_zero, List.set_cons_succ])))
              have s2 := (hBe.cell (p := ⟨g2, z, none⟩) hg2).trans X2.out
              have s3 := (hBe.frozen (p := ⟨g2, z, none⟩) hg2).trans X3.out
              refine ord_do rfl (by rfl) (by rfl) (fun K hK => ?_)
              go_simp
              refine hK.out _ _ (fun h => absurd h (by omega)) ?_
              (try simp only [Act.put, List.setIfInBounds_toArray, List.set_cons_zero, List.set_cons_succ])
              clear hK K
              refine ord_do rfl (by rfl) (by rfl) (fun K hK => ?_)
              go_simp
              refine hK.out _ _ (fun h => absurd h (by omega)) ?_
              (try simp only [Act.put, List.setIfInBounds_toArray, List.set_cons_zero, List.set_cons_succ])
              clear hK K
              refine ord_nil ?_
              have hE6 := HLA.out wd' hBe
              rw [HQ.out] at hE6
              clear s2 s3
              go_wp2_with fail
              go_roundw
              case rel => exact ⟨z + 1, by omega, by go_num, hE6, (hb5.trans (hBe.mono hb5.size)).setCell x4.1 _⟩
              case measure => simp [intOf] <;> omega
            · obtain rfl : z = n := by omega
              rw [pm_next] at hE5
              go_wp2_with fail
              go_roundw
              case rel => exact ⟨y + 1, by omega, by go_num, hE5, hb5⟩
              case measure => simp [intOf] <;> omega
        · obtain rfl : y = n := by omega
          rw [pm_all] at hE5
          obtain ⟨w6, rfl⟩ : ∃ w6, w6 = wr := ⟨_, rfl⟩
          have hCx := hCB.bel hb5
          have y2 := hCx.out.cell 2
          have z2 := hCx.out.frozen 2
          have hgx := hCx.out.lt
          have hl6 := hb5.size
          have hbw : Below w6.heap.size w6 (w6.alloc (.cells #[.slice Ar' y cr] 39)) := (Below.refl _ _).alloc (Nat.le_refl _) _
          have hE6 := E2.below hE5 hbw
          have hlen : ((List.range k).map fun x => mat y fun y z => num x y z % M).length ≤ 1048576 := by simp; omega
          have hg4' : g + 1 ≤ w4.heap.size := hg4
          obtain ⟨Av, cv, rfl⟩ := hCB.vals.val
          rw [List.length_map, List.length_range] at *
          have hgL : g < (w6.alloc (.cells #[.slice Ar' y cr] 39)).heap.size := by simp; omega
          go_wp2_with (at_builtin; refine list_pushG kp2 35 39 _ 24 Try.underlying35 rows2_info (by omega) rfl _ rfl _ _ rfl (g + 1) (.slice Av k cv) _ rfl w4 hCB.vals (hb5.trans (hbw.mono hl6)) (.slice Ar' y cr) _ _ hE6 (fun b hb => ⟨hb.1, by have := hE5.bd b hb; simp; omega⟩) rfl w6.heap.size _ rfl (Blk.new _ _ _) (by simp; omega) hg4' (by simp) ?_; intro g' cap' w7 hG7 hB7 hW7 hg7 hg8; have t2 := (hB7.cell (p := ⟨g, 2, none⟩) (Nat.lt_succ_self g)).trans ((hbw.cell (p := ⟨g, 2, none⟩) hgx).trans y2); have t3 := (hB7.frozen (p := ⟨g, 2, none⟩) (Nat.lt_succ_self g)).trans ((hbw.frozen (p := ⟨g, 2, none⟩) hgx).trans z2))
          have hN := hCB.next (hb5.trans (hbw.mono hl6)) hB7 hG7
          rw [List.length_map, List.length_range, cub_snoc' (f := fun x y z => num x y z % M)] at hN
          go_roundw
          case rel => exact ⟨k + 1, _, by omega, by go_num, hN⟩
          case measure => simp [intOf] <;> omega
    · obtain rfl : k = n := by omega
      obtain ⟨Av, cv, rfl⟩ := hCB.vals.val
      rw [List.length_map, List.length_range] at *
      have hfin := hCB.fin
      have x0 := hCB.out.cell 0
      have x1 := hCB.out.cell 1
      have x2 := hCB.out.cell 2
      have g0 := hCB.res.frozen 0
      have g1 := hCB.res.frozen 1
      have g2 := hCB.res.frozen 2
      have y0 := hCB.res.cell 0
      have y1 := hCB.res.cell 1
      have y2 := hCB.res.cell 2
      have hb3 := put3_blk (x := .slice Ao os.length co) (y := .int .i64 M) (z := .slice Av k cv) hCB.res
      have q0 := hb3.cell 0
      have q1 := hb3.cell 1
      have q2 := hb3.cell 2
      unfold put3 at q0 q1 q2
      go_wp2_with fail
      refine bodyPost_ret (v := .agg #[.slice Ao os.length co, .int .i64 M, .slice Av k cv]) (by simp [results, Try.results43, go_sem, q0, q1, q2]) rfl ?_
      exact ⟨_, rfl, ⟨show i64ok M from ⟨by omega, by omega⟩, hfin⟩, put3_below hCB.below (Nat.le_refl _)⟩
set_option maxHeartbeats 4000000 in
theorem coboundary_any (w : World) (A : Option Addr) (n c : Nat) (os : List Int) (M : Int) (b off k e : Nat) (b1 o1 c1 : Nat → Nat) (f : List (List Int)) (h : Sl w w.heap.size A n c os) (hn : n ≤ 1048576) (V : Vw w w.heap.size k b off b1 o1 c1 (gf f)) (hH : OkH os) (hk : (k : Int) = prodL os) (hk8 : k ≤ 8) (m1 : 1 ≤ M) (m2 : M ≤ 1000) (hf : MatM k M f) :
    Calls Try.prog 38 #[.slice A n c, .int .i64 M, .slice (some ⟨b, off, none⟩) k e] w (MkE cocycle_E w (os, M, cub k (cobF os M f))) := by
  have hkn : (prodL os).toNat = k := by omega
  have HK := hide hk
  have HN := hide hkn
  have hP8 := hide (show prodL os ≤ 8 by omega)
  clear hk hkn
  go_enter Try.func38, Try.ntmps38
  go_wp2_with fail
  obtain ⟨W, hW⟩ : ∃ W, ((w.alloc (.cells #[.slice (some ⟨b, off, none⟩) k e] 39)).alloc (.cells #[.slice none 0 0, .int .i64 0, .slice none 0 0] 37)).alloc (.cells #[.slice A n c, .int .i64 M, .slice none 0 0] 37) = W := ⟨_, rfl⟩
  have hb0 : Below w.heap.size w W := by rw [← hW]; exact (by repeat (first | assumption | exact Below.refl _ _ | apply below_drewN | apply Below.drew | apply Below.alloc | apply Below.setCell | omega | (focus (simp; done)) | (focus (simp; omega))))
  have bf : Blk W w.heap.size 39 #[.slice (some ⟨b, off, none⟩) k e] := by rw [← hW]; exact ((Blk.new _ _ _).alloc _).alloc _
  have br : Blk W (w.heap.size + 1) 37 #[.slice none 0 0, .int .i64 0, .slice none 0 0] := by rw [← hW]; exact (Blk.new' _ _ _ _ (by simp)).alloc _
  have bc : Blk W (w.heap.size + 1 + 1) 37 #[.slice A n c, .int .i64 M, .slice none 0 0] := by rw [← hW]; exact Blk.new' _ _ _ _ (by simp)
  have hrl := br.lt
  rw [hW]
  clear hW
  have hcb := cby_cob W A n c os M w.heap.size (w.heap.size + 1 + 1) (cob2 os f) ((h.below hb0).more hb0.size) hn hH hP8.out m1 m2
    (fun x y z hx hy hz wd hwd => by
      rw [HN.out] at hx hy hz
      have hbw := hb0.trans (hwd.mono hb0.size)
      exact cobF_any wd w.heap.size (w.heap.size + 1 + 1) A n c os M b off k e b1 o1 c1 f x y z ((bf.all hwd).cell 0) (bc.all hwd) ((h.below hbw).more hbw.size) (V.keep hbw hbw.size) hH HK.out hk8 m1 m2 hf hx hy hz)
  rw [HN.out] at hcb
  refine hcb.mono ?_
  rintro en w3 ⟨v, rfl, he, hb3⟩
  obtain ⟨A1, n1, c1', z1, D1, m1', e1, rfl, hz1⟩ := cocycle_form (cocycle_rd he)
  have br3 := br.all hb3
  have hbw3 := hb0.trans (hb3.mono hb0.size)
  have hc9 : (cub k fun x y z => cob2 os f x y z % M) = cub k (cobF os M f) := rfl
  rw [hc9] at he
  have HE := hide he
  clear br bf bc hz1 hcb hc9 he h V
  have g0 := br3.frozen 0
  have g1 := br3.frozen 1
  have g2 := br3.frozen 2
  have y0 := br3.cell 0
  have y1 := br3.cell 1
  have y2 := br3.cell 2
  have hb3' := put3_blk (x := .slice A1 n1 c1') (y := .int .i64 z1) (z := .slice D1 m1' e1) br3
  have q0 := hb3'.cell 0
  have q1 := hb3'.cell 1
  have q2 := hb3'.cell 2
  unfold put3 at q0 q1 q2
  go_wp2_with fail
  refine bodyPost_ret (v := .agg #[.slice A1 n1 c1', .int .i64 z1, .slice D1 m1' e1]) (by simp [results, Try.results38, go_sem, q0, q1, q2]) rfl ?_
  exact ⟨_, rfl, cocycle_put HE.out hbw3 hrl (by omega), put3_below hbw3 (by omega)⟩
/-- What CoboundaryOf returns. -/
noncomputable def cobR (os : List Int) (M : Int) (f : List (List Int)) : cocycle_T := if cobK os M f = 0 then (os, M, cub (prodL os).toNat (cobF os M f)) else ([], 0, [])
theorem cobK_0 {os : List Int} {M : Int} {f : List (List Int)} (h : cobK os M f = 0) : OrdH os ∧ prodL os ≤ 8 ∧ 1 ≤ M ∧ M ≤ 1000 ∧ IsPr (prodL os).toNat M f := by
  unfold cobK at h
  split at h
  · rename_i h0
    split at h
    · rename_i h1
      split at h
      · rename_i h2
        obtain ⟨a, b⟩ := cdO_0 h0
        simp only [inB, decide_eq_true_eq] at h1
        exact ⟨a, b, h1.1, h1.2, prB_iff.1 h2⟩
      · cases h
    · cases h
  · rename_i h0; exact absurd h h0
theorem cobR_tot {os : List Int} {M : Int} {f : List (List Int)} (hn : os.length ≤ 1048576) : cocycleW_tot (cobR os M f) ≤ 1048576 := by
  unfold cobR
  split
  · rename_i h
    have h8 := (cobK_0 h).2.1
    have := tot3_cub (prodL os).toNat (by omega) (cobF os M f)
    unfold cocycleW_tot
    simp only
    omega
  · decide
theorem cob_0 {os : List Int} {M : Int} {f : List (List Int)} (h : cobK os M f = 0) : cobR os M f = (os, M, cub (prodL os).toNat (cobF os M f)) := by unfold cobR; rw [if_pos h]
theorem cob_1 {os : List Int} {M : Int} {f : List (List Int)} (h : cobK os M f ≠ 0) : cobR os M f = ([], 0, []) := by unfold cobR; rw [if_neg h]
end Go.Proofs.Ytnhgflmmfppmnaa
