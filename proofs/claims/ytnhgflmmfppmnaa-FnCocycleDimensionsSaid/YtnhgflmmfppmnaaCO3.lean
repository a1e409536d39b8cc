
/- The walk of l17Coboundary of the reference. -/
import Derived.Test.YtnhgflmmfppmnaaCO2
import Derived.Test.YtnhgflmmfppmnaaCB3
namespace Go.Proofs.Ytnhgflmmfppmnaa
open Go Go.RowKit Grp
set_option linter.unusedSimpArgs false
set_option linter.unusedVariables false
set_option maxRecDepth 100000
/-- The coboundary of a pairing, ahead of the modulus. -/
def cob2 (os : List Int) (f : List (List Int)) (x y z : Nat) : Int := gf f y z - gf f (An os x y) z + gf f x (An os y z) - gf f x y
def cobF (os : List Int) (M : Int) (f : List (List Int)) (x y z : Nat) : Int := cob2 os f x y z % M
theorem cob4 {M a b c d : Int} (m1 : 1 ≤ M) (m2 : M ≤ 1000) (ha : 0 ≤ a ∧ a ≤ M - 1) (hb : 0 ≤ b ∧ b ≤ M - 1) (hc : 0 ≤ c ∧ c ≤ M - 1) (hd : 0 ≤ d ∧ d ≤ M - 1) :
    IntKind.i64.wrap (a - b) = a - b ∧ IntKind.i64.wrap (a - b + c) = a - b + c ∧ IntKind.i64.wrap (a - b + c - d) = a - b + c - d ∧ IntKind.i64.wrap (2 * M) = 2 * M ∧ IntKind.i64.wrap (a - b + c - d + 2 * M) = a - b + c - d + 2 * M ∧ (a - b + c - d + 2 * M).tmod M = (a - b + c - d) % M ∧ ¬ M = 0 ∧ 0 ≤ (a - b + c - d) % M ∧ (a - b + c - d) % M < M := by
  refine ⟨wr64 _ ⟨by omega, by omega⟩, wr64 _ ⟨by omega, by omega⟩, wr64 _ ⟨by omega, by omega⟩, wr64 _ ⟨by omega, by omega⟩, wr64 _ ⟨by omega, by omega⟩, ?_, by omega, Int.emod_nonneg _ (by omega), Int.emod_lt_of_pos _ (by omega)⟩
  rw [Int.tmod_eq_emod_of_nonneg (by omega), Int.add_mul_emod_self_right]
set_option maxHeartbeats 8000000 in
theorem l17Coboundary_any (w : World) (A : Option Addr) (n c : Nat) (os : List Int) (M : Int) (b off k e : Nat) (b1 o1 c1 : Nat → Nat) (f : List (List Int)) (h : Sl w w.heap.size A n c os) (hn : n ≤ 1048576) (V : Vw w w.heap.size k b off b1 o1 c1 (gf f)) (hH : OkH os) (hk : (k : Int) = prodL os) (hk8 : k ≤ 8) (m1 : 1 ≤ M) (m2 : M ≤ 1000) (hf : MatM k M f) :
    Calls Try.prog 41 #[.slice A n c, .int .i64 M, .slice (some ⟨b, off, none⟩) k e] w (MkE cocycle_E w (os, M, cub k (cobF os M f))) := by
  obtain rfl := h.len
  have hk1 : 1 ≤ k := by have := hH.ge; omega
  have HAl := hide (fun x y => An_lt hH hk x y)
  have HR := hide (fun i j (hi : i < k) (hj : j < k) => hf.rng hi hj)
  have HOs := hide h
  have HK := hide hk
  clear hk hf
  go_enter Try.func41, Try.ntmps41
  go_wp2_with fail
  obtain ⟨W, hW⟩ : ∃ W, w.alloc (.cells #[.slice none 0 0, .int .i64 0, .slice none 0 0] 37) = W := ⟨_, rfl⟩
  have hb0 : Below w.heap.size w W := by rw [← hW]; exact (by repeat (first | assumption | exact Below.refl _ _ | apply below_drewN | apply Below.drew | apply Below.alloc | apply Below.setCell | omega | (focus (simp; done)) | (focus (simp; omega))))
  have br : Blk W w.heap.size 37 #[.slice none 0 0, .int .i64 0, .slice none 0 0] := by rw [← hW]; exact Blk.new _ _ _
  have hrl := br.lt
  rw [hW]
  clear hW
  refine ((l01Own_any W w.heap.size A os.length c os (h.below hb0) hb0.size hn).mono fun _ _ hh => mkE1 hh h.rng).mono ?_
  rintro en w0 ⟨vo, rfl, ho, hbo⟩
  obtain ⟨Ao, co, rfl, _⟩ := ho.sl
  replace br := br.all hbo
  have ho0 : E1 w0 (.slice Ao os.length co) os (fun b => w.heap.size < b ∧ b < w0.heap.size) := E1.mono ho (fun b hb => ⟨by have := hb.1; omega, hb.2⟩) (fun b hb => hb.2)
  have hso := hbo.size
  replace hb0 := hb0.trans (hbo.mono hb0.size)
  clear ho hbo
  go_wp2_with fail
  refine (l06Empty_any w0 k (by omega)).mono ?_
  rintro en w1 ⟨vv, rfl, hG, hb1⟩
  have hv := hG.toL
  obtain ⟨Av, cv, rfl⟩ := hG.val
  rw [List.length_replicate] at hv ⊢
  rw [← pc_zero (n := k) (f := cobF os M f)] at hv
  have br1 := br.all hb1
  have ho1 := E1.below ho0 hb1
  have hb2 := hb0.trans (hb1.mono hb0.size)
  have hs1 := hb1.size
  obtain ⟨S, hS⟩ : ∃ S, w0.heap.size = S := ⟨_, rfl⟩
  rw [hS] at ho1 hv hs1 hso
  have hsz : w.heap.size < S := by omega
  clear hG br ho0 hS hb1 hb0
  go_wp2_with fail
  obtain ⟨g, hg⟩ : ∃ g, w1.heap.size = g := ⟨_, rfl⟩
  rw [hg] at hs1 hv
  obtain ⟨w2, hw2⟩ : ∃ w2, w1.alloc (.cells #[.slice Ao os.length co, .int .i64 M, .slice Av k cv] 37) = w2 := ⟨_, rfl⟩
  have hb2a : Below w1.heap.size w1 w2 := by rw [← hw2]; exact (Below.refl _ _).alloc (Nat.le_refl _) _
  have hS2 : SBy w w.heap.size S g (.slice Ao os.length co) os M (.slice Av k cv) (pc k (cobF os M f) 0 0 0) w2 := by
    refine ⟨br1.all hb2a, by rw [← hw2]; exact Blk.new' _ _ _ _ hg, E1.below ho1 hb2a, E3.below hv hb2a, Nat.le_refl _, hsz, hs1, hb2.trans (hb2a.mono hb2.size)⟩
  try rw [hg]
  rw [hw2]
  clear hw2 br1 ho1 hv hb2 hb2a hg h
  go_loopw [9] (fun i wr => ∃ x : Nat, x ≤ k ∧ i = .int .i64 x ∧ SBy w w.heap.size S g (.slice Ao os.length co) os M (.slice Av k cv) (pc k (cobF os M f) x 0 0) wr) (fun i _ => k - (intOf i).toNat)
  case atStart => exact ⟨0, by omega, rfl, hS2⟩
  case round =>
    clear hS2
    obtain ⟨x, hx, rfl, hS⟩ := hrel
    by_cases hlx : x < k
    · go_wp2_with fail
      go_loopw [10] (fun i wr => ∃ y : Nat, y ≤ k ∧ i = .int .i64 y ∧ SBy w w.heap.size S g (.slice Ao os.length co) os M (.slice Av k cv) (pc k (cobF os M f) x y 0) wr) (fun i _ => k - (intOf i).toNat)
      case atStart => exact ⟨0, by omega, rfl, hS⟩
      case round =>
        clear hS
        obtain ⟨y, hy, rfl, hS⟩ := hrel
        by_cases hly : y < k
        · go_wp2_with fail
          go_loopw [11] (fun i wr => ∃ z : Nat, z ≤ k ∧ i = .int .i64 z ∧ SBy w w.heap.size S g (.slice Ao os.length co) os M (.slice Av k cv) (pc k (cobF os M f) x y z) wr) (fun i _ => k - (intOf i).toNat)
          case atStart => exact ⟨0, by omega, rfl, hS⟩
          case round =>
            clear hS
            obtain ⟨z, hz, rfl, hS⟩ := hrel
            by_cases hlz : z < k
            · obtain ⟨i1, ei1⟩ : ∃ i, An os x y = i := ⟨_, rfl⟩
              obtain ⟨i2, ei2⟩ : ∃ i, An os y z = i := ⟨_, rfl⟩
              have hi1 : i1 < k := by rw [← ei1]; exact HAl.out x y
              have hi2 : i2 < k := by rw [← ei2]; exact HAl.out y z
              have H1 := hide (fun W' (hW : Below w.heap.size w W') => by
                have h9 := l06Add_any W' w.heap.size A os.length c os x y (HOs.out.below hW) hH (by omega) (by omega) (by omega) (by omega)
                rw [An_eq hH x y, ei1] at h9
                exact h9.mono fun _ _ h => Qt.re h)
              have H2 := hide (fun W' (hW : Below w.heap.size w W') => by
                have h9 := l06Add_any W' w.heap.size A os.length c os y z (HOs.out.below hW) hH (by omega) (by omega) (by omega) (by omega)
                rw [An_eq hH y z, ei2] at h9
                exact h9.mono fun _ _ h => Qt.re h)
              have hco : cobF os M f x y z = (gf f y z - gf f i1 z + gf f x i2 - gf f x y) % M := by unfold cobF cob2; rw [ei1, ei2]
              have hr1 := HR.out y z hly hlz
              have hr2 := HR.out i1 z hi1 hlz
              have hr3 := HR.out x i2 hlx hi2
              have hr4 := HR.out x y hlx hly
              obtain ⟨q1, q2, q3, q4, q5, q6, q7, q8, q9⟩ := cob4 m1 m2 hr1 hr2 hr3 hr4
              rw [← hco] at q6 q8 q9
              obtain ⟨gv, g1, g2, cv', d1, d2, ev, kg0, kg1, kg2, x0, x1, ⟨u, x2⟩, x3, x4, HL⟩ := E3.later hS.vals hlx hly hlz ⟨by omega, by omega⟩
              injection ev with ev1 _ ev2
              subst ev1
              subst ev2
              have Vr := V.keep hS.below hS.below.size
              have HV := hide Vr
              have hf1 := hide (Vr.h2 y z hly hlz)
              have hf2 := hide (Vr.h2 i1 z hi1 hlz)
              have hf3 := hide (Vr.h2 x i2 hlx hi2)
              have hf4 := hide (Vr.h2 x y hlx hly)
              have hl1 := (Vr.h1 y hly).2
              have hl2 := (Vr.h1 i1 hi1).2
              have hl3 := (Vr.h1 x hlx).2
              obtain ⟨v1, ev1⟩ : ∃ v, gf f y z = v := ⟨_, rfl⟩
              obtain ⟨v2, ev2⟩ : ∃ v, gf f i1 z = v := ⟨_, rfl⟩
              obtain ⟨v3, ev3⟩ : ∃ v, gf f x i2 = v := ⟨_, rfl⟩
              obtain ⟨v4, ev4⟩ : ∃ v, gf f x y = v := ⟨_, rfl⟩
              rw [ev1] at hf1
              rw [ev2] at hf2
              rw [ev3] at hf3
              rw [ev4] at hf4
              simp only [ev1, ev2, ev3, ev4] at q1 q2 q3 q5 q6
              obtain ⟨q, hq⟩ : ∃ q, cobF os M f x y z = q := ⟨_, rfl⟩
              rw [hq] at q6 HL
              have HLH := hide HL
              have HB := hide hS.below
              have Y2 := hide (hS.out.cell 2)
              have hgl := hS.out.lt
              have X0 := hide x0
              have X1 := hide x1
              have X2 := hide x2
              have X3 := hide x3
              obtain ⟨sm, hsm⟩ : ∃ s, v1 - v2 + v3 - v4 = s := ⟨_, rfl⟩
              rw [hsm] at q5 q6
              replace q3 := q3.trans hsm
              clear HL x0 x1 x2 x3 hq hco hr1 hr2 hr3 hr4 ev1 ev2 ev3 ev4 ei1 ei2 Vr q8 q9 hsm
              obtain ⟨w6, rfl⟩ : ∃ w6, w6 = wr := ⟨_, rfl⟩
              go_wp2_with fail
              refine wp_region_be [0, 1, 2, 3, 4, 5, 6, 7, 8, 9, 10, 14, 18, 19, 20, 21, 22, 23, 24, 29, 30, 31, 32, 33, 34, 35, 11, 12, 13, 15, 16, 17, 25, 26, 27, 28, 36, 37] 37 w6.heap.size w6 (by kernel_rfl) (by kernel_rfl) (by kernel_rfl) (fun _ _ _ _ _ h => h) (Below.refl _ _) (fun wd hBe => ?_)
              repeat (first | (apply ord_tk rfl (by rfl) (by rfl) (by rfl); (focus (intro wx hSw; have V9 := HV.out.keep hSw hSw.size; have r1 := (V9.h1 y hly).1; have r2 := (V9.h1 i1 hi1).1; have r3 := (V9.h1 x hlx).1; clear V9; have r4 := (hSw.cell (p := ⟨b1 y, o1 y + z, none⟩) hl1).trans hf1.out; have r5 := (hSw.cell (p := ⟨b1 i1, o1 i1 + z, none⟩) hl2).trans hf2.out; have r6 := (hSw.cell (p := ⟨b1 x, o1 x + i2, none⟩) hl3).trans hf3.out; have r7 := (hSw.cell (p := ⟨b1 x, o1 x + y, none⟩) hl3).trans hf4.out; go_simp; (try with_reducible rfl))); (try simp only [Act.put, List.setIfInBounds_toArray, List.set_cons_zero, List.set_cons_succ])) | (apply ord_skip rfl (by rfl) (by rfl) (fun _ => hBe); (try simp only [Act.put, List.setIfInBounds_toArray, List.set_cons_zero, List.set_cons_succ])))
              refine ord_do rfl (by rfl) (by rfl) (fun K hK => ?_)
              go_simp
              refine (H1.out _ (HB.out.trans (hBe.mono HB.out.size))).mono ?_
              rintro e wd' ⟨rfl, hwd⟩
              replace hBe := hBe.trans (hwd.mono hBe.size)
              clear hwd
              refine hK.out _ _ (fun _ => hBe) ?_
              (try simp only [Act.put, List.setIfInBounds_toArray, List.set_cons_zero, List.set_cons_succ])
              clear hK K
              repeat (first | (apply ord_tk rfl (by rfl) (by rfl) (by rfl); (focus (intro wx hSw; have V9 := HV.out.keep hSw hSw.size; have r1 := (V9.h1 y hly).1; have r2 := (V9.h1 i1 hi1).1; have r3 := (V9.h1 x hlx).1; clear V9; have r4 := (hSw.cell (p := ⟨b1 y, o1 y + z, none⟩) hl1).trans hf1.out; have r5 := (hSw.cell (p := ⟨b1 i1, o1 i1 + z, none⟩) hl2).trans hf2.out; have r6 := (hSw.cell (p := ⟨b1 x, o1 x + i2, none⟩) hl3).trans hf3.out; have r7 := (hSw.cell (p := ⟨b1 x, o1 x + y, none⟩) hl3).trans hf4.out; go_simp; (try with_reducible rfl))); (try simp only [Act.put, List.setIfInBounds_toArray, List.set_cons_zero, List.set_cons_succ])) | (apply ord_skip rfl (by rfl) (by rfl) (fun _ => hBe); (try simp only [Act.put, List.setIfInBounds_toArray, List.set_cons_zero, List.set_cons_succ])))
              refine ord_do rfl (by rfl) (by rfl) (fun K hK => ?_)
              go_simp
              refine (H2.out _ (HB.out.trans (hBe.mono HB.out.size))).mono ?_
              rintro e wd' ⟨rfl, hwd⟩
              replace hBe := hBe.trans (hwd.mono hBe.size)
              clear hwd
              refine hK.out _ _ (fun _ => hBe) ?_
              (try simp only [Act.put, List.setIfInBounds_toArray, List.set_cons_zero, List.set_cons_succ])
              clear hK K
              repeat (first | (apply ord_tk rfl (by rfl) (by rfl) (by rfl); (focus (intro wx hSw; have V9 := HV.out.keep hSw hSw.size; have r1 := (V9.h1 y hly).1; have r2 := (V9.h1 i1 hi1).1; have r3 := (V9.h1 x hlx).1; clear V9; have r4 := (hSw.cell (p := ⟨b1 y, o1 y + z, none⟩) hl1).trans hf1.out; have r5 := (hSw.cell (p := ⟨b1 i1, o1 i1 + z, none⟩) hl2).trans hf2.out; have r6 := (hSw.cell (p := ⟨b1 x, o1 x + i2, none⟩) hl3).trans hf3.out; have r7 := (hSw.cell (p := ⟨b1 x, o1 x + y, none⟩) hl3).trans hf4.out; go_simp; (try with_reducible rfl))); (try simp only [Act.put, List.setIfInBounds_toArray, List.set_cons_zero, List.set_cons_succ])) | (apply ord_skip rfl (by rfl) (by rfl) (fun _ => hBe); (try simp only [Act.put, List.setIfInBounds_toArray, List.set_cons_zero, List.set_cons_succ])))
              refine ord_do rfl (by rfl) (by rfl) (fun K hK => ?_)
              go_simp
              refine hK.out _ _ (fun h => absurd h (by omega)) ?_
              (try simp only [Act.put, List.setIfInBounds_toArray, List.set_cons_zero, List.set_cons_succ])
              clear hK K
              refine ord_nil ?_
              obtain ⟨w7, hw7⟩ : ∃ w7, w7 = wd' := ⟨_, rfl⟩
              rw [← hw7] at hBe ⊢
              have hB7 := hBe
              clear hw7 hBe
              go_wp2_with fail
              refine wp_region_be [0, 1, 2, 3, 4, 5, 6, 7, 8, 9, 10, 11, 12, 13, 14, 15, 16] 15 w6.heap.size w6 (by kernel_rfl) (by kernel_rfl) (by kernel_rfl) (fun _ _ _ _ _ h => h) hB7 (fun wd hBe => ?_)
              repeat (first | (apply ord_tk rfl (by rfl) (by rfl) (by rfl); (focus (intro wx hSw; have r2 := (hSw.cell (p := ⟨g, 2, none⟩) hgl).trans Y2.out; have r3 := (hSw.cell (p := ⟨gv, x, none⟩) kg0).trans X0.out; have r4 := (hSw.cell (p := ⟨g1, y, none⟩) kg1).trans X1.out; go_simp; (try with_reducible rfl))); (try simp only [Act.put, List.setIfInBounds_toArray, List.set_cons_zero, List.set_cons_succ])) | (apply ord_skip rfl (by rfl) (by rfl) (fun _ => hBe); (try simp only [Act.put, List.setIfInBounds_toArray, List.set_cons_zero, List.set_cons_succ])))
              have s2 := (hBe.cell (p := ⟨g2, z, none⟩) kg2).trans X2.out
              have s3 := (hBe.frozen (p := ⟨g2, z, none⟩) kg2).trans X3.out
              refine ord_do rfl (by rfl) (by rfl) (fun K hK => ?_)
              go_simp
              refine hK.out _ _ (fun h => absurd h (by omega)) ?_
              (try simp only [Act.put, List.setIfInBounds_toArray, List.set_cons_zero, List.set_cons_succ])
              clear hK K
              refine ord_do rfl (by rfl) (by rfl) (fun K hK => ?_)
              go_simp
              refine hK.out _ _ (fun h => absurd h (by omega)) ?_
              (try simp only [Act.put, List.setIfInBounds_toArray, List.set_cons_zero, List.set_cons_succ])
              clear hK K
              refine ord_nil ?_
              have HN := hide (hS.step hBe (HLH.out wd hBe) x4)
              clear s2 s3
              go_wp2_with fail
              go_roundw
              case rel => exact ⟨z + 1, by omega, by go_num, HN.out⟩
              case measure => simp [intOf] <;> omega
            · obtain rfl : k = z := by omega
              have h9 := hS
              rw [pc_nextz] at h9
              go_wp2_with fail
              go_roundw
              case rel => exact ⟨y + 1, by omega, by go_num, h9⟩
              case measure => simp [intOf] <;> omega
        · obtain rfl : k = y := by omega
          have h9 := hS
          rw [pc_nexty] at h9
          go_wp2_with fail
          go_roundw
          case rel => exact ⟨x + 1, by omega, by go_num, h9⟩
          case measure => simp [intOf] <;> omega
    · obtain rfl : k = x := by omega
      have h9 := hS
      rw [pc_all] at h9
      have x0 := h9.out.cell 0
      have x1 := h9.out.cell 1
      have x2 := h9.out.cell 2
      have g0 := h9.res.frozen 0
      have g1 := h9.res.frozen 1
      have g2 := h9.res.frozen 2
      have y0 := h9.res.cell 0
      have y1 := h9.res.cell 1
      have y2 := h9.res.cell 2
      have hb3 := put3_blk (x := .slice Ao os.length co) (y := .int .i64 M) (z := .slice Av k cv) h9.res
      have q0 := hb3.cell 0
      have q1 := hb3.cell 1
      have q2 := hb3.cell 2
      unfold put3 at q0 q1 q2
      go_wp2_with fail
      refine bodyPost_ret (v := .agg #[.slice Ao os.length co, .int .i64 M, .slice Av k cv]) (by simp [results, Try.results41, go_sem, q0, q1, q2]) rfl ?_
      exact h9.fin ⟨by omega, by omega⟩
end Go.Proofs.Ytnhgflmmfppmnaa
