
/- The walks of CyclicCocycle of both sides. -/
import Derived.Test.YthjlpgaoemdmkaaCB3
namespace Go.Proofs.Ythjlpgaoemdmkaa
open Go Go.RowKit Grp
set_option linter.unusedSimpArgs false
set_option linter.unusedVariables false
set_option maxRecDepth 100000

def cyc (n : Nat) (k : Int) (x y z : Nat) : Int := (if (n : Int) ≤ (y : Int) + z then k * (x : Int) else 0) % n
set_option maxHeartbeats 8000000 in
theorem l17Cyclic_any (w : World) (n : Nat) (k : Int) (n1 : 1 ≤ n) (n8 : n ≤ 8) (k0 : 0 ≤ k) (k1 : k ≤ 8) : Calls Try.prog 56 #[.int .i64 n, .int .i64 k] w (MkE cocycle_E w ([(n : Int)], n, cub n (cyc n k))) := by
  go_enter Try.func56, Try.ntmps56
  go_wp2_with fail
  obtain ⟨W, hW⟩ : ∃ W, (w.alloc (.cells #[.slice none 0 0, .int .i64 0, .slice none 0 0] 25)).alloc (.cells #[.int .i64 n] 2) = W := ⟨_, rfl⟩
  have hb0 : Below w.heap.size w W := by rw [← hW]; exact (by repeat (first | assumption | exact Below.refl _ _ | apply below_drewN | apply Below.drew | apply Below.alloc | apply Below.setCell | omega | (focus (simp; done)) | (focus (simp; omega))))
  have br : Blk W w.heap.size 25 #[.slice none 0 0, .int .i64 0, .slice none 0 0] := by rw [← hW]; exact (Blk.new _ _ _).alloc _
  have ho : E1 W (.slice (some ⟨w.heap.size + 1, 0, none⟩) 1 1) [(n : Int)] (fun b => w.heap.size < b ∧ b < W.heap.size) := by
    have h1 : Ow W (w.heap.size + 1) (.slice (some ⟨w.heap.size + 1, 0, none⟩) 1 1) [(n : Int)] := by rw [← hW]; exact Ow.made' (xs := [(n : Int)]) _ _ (w.heap.size + 1) 1 (by simp) rfl (Nat.le_refl _) rfl (by unfold maxLen; omega)
    exact (E1.of_ow h1 (by unfold i64ok; simp; omega)).mono (fun b hb => ⟨by have := hb.1; omega, hb.2⟩) (fun b hb => hb.2)
  have hsz : w.heap.size < W.heap.size := by rw [← hW]; simp; omega
  rw [hW]
  clear hW
  refine (l06Empty_any W n (by omega)).mono ?_
  rintro e w1 ⟨vv, rfl, hG, hb1⟩
  have hv := hG.toL
  obtain ⟨Av, cv, rfl⟩ := hG.val
  rw [List.length_replicate] at hv ⊢
  rw [← pc_zero (n := n) (f := cyc n k)] at hv
  have br1 := br.all hb1
  have ho1 := E1.below ho hb1
  have hb2 := hb0.trans (hb1.mono hb0.size)
  have hs1 := hb1.size
  obtain ⟨S, hS⟩ : ∃ S, W.heap.size = S := ⟨_, rfl⟩
  rw [hS] at hsz ho1 hv hs1
  clear hG br ho hS hb1 hb0
  go_wp2_with fail
  obtain ⟨g, hg⟩ : ∃ g, w1.heap.size = g := ⟨_, rfl⟩
  rw [hg] at hs1 hv
  obtain ⟨w2, hw2⟩ : ∃ w2, w1.alloc (.cells #[.slice (some ⟨w.heap.size + 1, 0, none⟩) 1 1, .int .i64 n, .slice Av n cv] 25) = w2 := ⟨_, rfl⟩
  have hb2a : Below w1.heap.size w1 w2 := by rw [← hw2]; exact (Below.refl _ _).alloc (Nat.le_refl _) _
  have hS2 : SBy w w.heap.size S g (.slice (some ⟨w.heap.size + 1, 0, none⟩) 1 1) [(n : Int)] n (.slice Av n cv) (pc n (cyc n k) 0 0 0) w2 := by
    refine ⟨br1.all hb2a, by rw [← hw2]; exact Blk.new' _ _ _ _ hg, E1.below ho1 hb2a, E3.below hv hb2a, Nat.le_refl _, hsz, hs1, hb2.trans (hb2a.mono hb2.size)⟩
  try rw [hg]
  rw [hw2]
  clear hw2 br1 ho1 hv hb2 hb2a hg
  go_loopw [6] (fun i wr => ∃ x : Nat, x ≤ n ∧ i = .int .i64 x ∧ SBy w w.heap.size S g (.slice (some ⟨w.heap.size + 1, 0, none⟩) 1 1) [(n : Int)] n (.slice Av n cv) (pc n (cyc n k) x 0 0) wr) (fun i _ => n - (intOf i).toNat)
  case atStart => exact ⟨0, by omega, rfl, hS2⟩
  case round =>
    clear hS2
    obtain ⟨x, hx, rfl, hS⟩ := hrel
    by_cases hlx : x < n
    · go_wp2_with fail
      go_loopw [7] (fun i wr => ∃ y : Nat, y ≤ n ∧ i = .int .i64 y ∧ SBy w w.heap.size S g (.slice (some ⟨w.heap.size + 1, 0, none⟩) 1 1) [(n : Int)] n (.slice Av n cv) (pc n (cyc n k) x y 0) wr) (fun i _ => n - (intOf i).toNat)
      case atStart => exact ⟨0, by omega, rfl, hS⟩
      case round =>
        clear hS
        obtain ⟨y, hy, rfl, hS⟩ := hrel
        by_cases hly : y < n
        · have hwny : IntKind.i64.wrap ((n : Int) - y) = (n : Int) - y := wr64 _ ⟨by omega, by omega⟩
          go_wp2_with fail
          go_loopw [8] (fun i wr => ∃ z : Nat, n ≤ y + z ∧ z ≤ n ∧ i = .int .i64 z ∧ SBy w w.heap.size S g (.slice (some ⟨w.heap.size + 1, 0, none⟩) 1 1) [(n : Int)] n (.slice Av n cv) (pc n (cyc n k) x y z) wr) (fun i _ => n - (intOf i).toNat)
          case atStart => exact ⟨n - y, by omega, by omega, by go_num, by rw [pc_skips fun z hz => (show cyc n k x y z = 0 by unfold cyc; rw [if_neg (by omega)]; simp)]; exact hS⟩
          case round =>
            clear hS
            obtain ⟨z, hzy, hz, rfl, hS⟩ := hrel
            by_cases hlz : z < n
            · have hkx0 : 0 ≤ k * (x : Int) := Int.mul_nonneg k0 (by omega)
              have hkx1 : k * (x : Int) ≤ 8 * 8 := Int.mul_le_mul k1 (by omega) (by omega) (by omega)
              have hval : cyc n k x y z = k * (x : Int) % n := by unfold cyc; rw [if_pos (by omega)]
              have e1 := Int.emod_nonneg (k * (x : Int)) (show (n : Int) ≠ 0 by omega)
              have e2 := Int.emod_lt_of_pos (k * (x : Int)) (show (0 : Int) < n by omega)
              obtain ⟨gv, g1, g2, cv', c1, c2, ev, kg0, kg1, kg2, x0, x1, ⟨u, x2⟩, x3, x4, HL⟩ := E3.later hS.vals hlx hly hlz (by rw [hval]; exact ⟨by omega, by omega⟩)
              rw [hval] at HL
              injection ev with ev1 _ ev2
              subst ev1
              subst ev2
              have HLH := hide HL
              have Y2 := hide (hS.out.cell 2)
              have hgl := hS.out.lt
              have X0 := hide x0
              have X1 := hide x1
              have X2 := hide x2
              have X3 := hide x3
              have w1' : IntKind.i64.wrap (k * (x : Int)) = k * (x : Int) := wr64 _ ⟨by omega, by omega⟩
              have w2' : (k * (x : Int)).tmod n = k * (x : Int) % n := Int.tmod_eq_emod_of_nonneg hkx0
              have w3' : ¬ n = 0 := by omega
              obtain ⟨q, hq⟩ : ∃ q, k * (x : Int) % n = q := ⟨_, rfl⟩
              rw [hq] at w2' HLH e1 e2
              clear HL x0 x1 x2 x3 hval hq
              go_wp2_with fail
              refine wp_region_be [0, 1, 2, 3, 4, 5, 6, 7, 8, 9, 10, 11, 12, 13, 14, 15] 14 wr.heap.size wr (by kernel_rfl) (by kernel_rfl) (by kernel_rfl) (fun _ _ _ _ _ h => h) (Below.refl _ _) (fun wd hBe => ?_)
              repeat (first | (apply ord_tk rfl (by rfl) (by rfl) (by rfl); (focus (intro wx hSw; have r2 := (hSw.cell (p := ⟨g, 2, none⟩) hgl).trans Y2.out; have r3 := (hSw.cell (p := ⟨gv, x, none⟩) kg0).trans X0.out; have r4 := (hSw.cell (p := ⟨g1, y, none⟩) kg1).trans X1.out; go_simp; (try with_reducible rfl))); (try simp only [Act.put, List.setIfInBounds_toArray, List.set_cons_zero, List.set_cons_succ])) | (apply ord_skip rfl (by rfl) (by rfl) (fun _ => hBe); (try simp only [Act.put, List.setIfInBounds_toArray, List.set_cons_zero, List.set_cons_succ])))
              have s2 := (hBe.cell (p := ⟨g2, z, none⟩) kg2).trans X2.out
              have s3 := (hBe.frozen (p := ⟨g2, z, none⟩) kg2).trans X3.out
              refine ord_do rfl (by rfl) (by rfl) (fun K hK => ?_)
              go_simp
              refine hK.out _ _ (fun h => absurd h (by omega)) ?_
              (try simp only [Act.put, List.setIfInBounds_toArray, List.set_cons_zero, List.set_cons_succ])
              clear hK K
              refine ord_do rfl (by rfl) (by rfl) (fun K hK => ?_)
              go_simp
              refine hK.out _ _ (fun h => absurd h (by omega)) ?_
              (try simp only [Act.put, List.setIfInBounds_toArray, List.set_cons_zero, List.set_cons_succ])
              clear hK K
              refine ord_nil ?_
              have HN := hide (hS.step hBe (HLH.out wd hBe) x4)
              clear s2 s3
              go_wp2_with fail
              go_roundw
              case rel => exact ⟨z + 1, by omega, by omega, by go_num, HN.out⟩
              case measure => simp [intOf] <;> omega
            · obtain rfl : n = z := by omega
              have h9 := hS
              rw [pc_nextz] at h9
              go_wp2_with fail
              go_roundw
              case rel => exact ⟨y + 1, by omega, by go_num, h9⟩
              case measure => simp [intOf] <;> omega
        · obtain rfl : n = y := by omega
          have h9 := hS
          rw [pc_nexty] at h9
          go_wp2_with fail
          go_roundw
          case rel => exact ⟨x + 1, by omega, by go_num, h9⟩
          case measure => simp [intOf] <;> omega
    · obtain rfl : n = x := by omega
      have h9 := hS
      rw [pc_all] at h9
      have x0 := h9.out.cell 0
      have x1 := h9.out.cell 1
      have x2 := h9.out.cell 2
      have g0 := h9.res.frozen 0
      have g1 := h9.res.frozen 1
      have g2 := h9.res.frozen 2
      have y0 := h9.res.cell 0
      have y1 := h9.res.cell 1
      have y2 := h9.res.cell 2
      have hb3 := put3_blk (x := .slice (some ⟨w.heap.size + 1, 0, none⟩) 1 1) (y := .int .i64 (n : Int)) (z := .slice Av n cv) h9.res
      have q0 := hb3.cell 0
      have q1 := hb3.cell 1
      have q2 := hb3.cell 2
      unfold put3 at q0 q1 q2
      go_wp2_with fail
      refine bodyPost_ret (v := .agg #[.slice (some ⟨w.heap.size + 1, 0, none⟩) 1 1, .int .i64 (n : Int), .slice Av n cv]) (by simp [results, Try.results56, go_sem, q0, q1, q2]) rfl ?_
      exact h9.fin ⟨by omega, by omega⟩


/-- What CyclicCocycle returns. -/
def cycB (n k : Int) : Bool := inB n 1 8 && inB k 0 (n - 1)
def cycC (n k : Int) : cocycle_T := if cycB n k = true then ([n], n, cub n.toNat (cyc n.toNat k)) else ([], 0, [])
def cycK (n k : Int) : Int := if cycB n k = true then 0 else 2
theorem cocycle_zero (w : World) (fp : Nat → Prop) (hb : ∀ b, fp b → b < w.heap.size) : cocycle_E w (.agg #[.slice none 0 0, .int .i64 0, .slice none 0 0]) ([], 0, []) fp :=
  ⟨⟨by simp, by simp⟩, _, _, fun _ => False, fun _ => False, rfl, E1.nil _ _ (fun _ h => h.elim), ⟨⟨[], fun _ _ => False, World.ownsRow_nil _ _ _ _, rfl, fun k u x h => by simp at h, fun _ _ _ h => h.elim, fun _ _ h => h.elim⟩, fun b hb => by simp [Value.ownBlock] at hb, fun _ h => h.elim⟩, fun _ h => h.elim, fun _ h => h.elim, fun _ h => h.elim, hb⟩
theorem cyc_1 {n k : Int} (h : cycB n k = false) : cycC n k = ([], 0, []) ∧ cycK n k = 2 := by unfold cycC cycK; rw [h]; exact ⟨rfl, rfl⟩
theorem cyc_2 {n : Nat} {k : Int} (h : cycB n k = true) : cycC n k = (([(n : Int)], (n : Int), cub n (cyc n k)) : cocycle_T) ∧ cycK n k = 0 := by unfold cycC cycK; rw [h]; exact ⟨rfl, rfl⟩
theorem tot3_cub (n : Nat) (h : n ≤ 8) (f : Nat → Nat → Nat → Int) : tot3 (cub n f) ≤ 600 := by
  have h1 : ∀ g, tot2 (mat n g) = n + n * n := fun g => by
    unfold tot2 totL mat
    simp only [List.length_map, List.length_range, List.map_map]
    congr 1
    have : ∀ k, ((List.range k).map (List.length ∘ fun y => (List.range n).map fun z => g y z)).sum = k * n := by
      intro k
      induction k with
      | zero => simp
      | succ k ih => rw [List.range_succ, List.map_append, List.sum_append, ih]; simp [Nat.succ_mul]
    exact this n
  have h2 : tot3 (cub n f) = n + n * (n + n * n) := by
    unfold tot3 totL cub
    simp only [List.length_map, List.length_range, List.map_map]
    congr 1
    have : ∀ k, ((List.range k).map (tot2 ∘ fun x => mat n (f x))).sum = k * (n + n * n) := by
      intro k
      induction k with
      | zero => simp
      | succ k ih => rw [List.range_succ, List.map_append, List.sum_append, ih]; simp [h1, Nat.succ_mul]
    exact this n
  rw [h2]
  have a : n * n ≤ 8 * 8 := Nat.mul_le_mul h h
  have b : n * (n + n * n) ≤ 8 * (8 + 64) := Nat.mul_le_mul h (by omega)
  omega
theorem cycC_tot (n k : Int) : cocycle_tot (cycC n k) ≤ 1048576 := by
  unfold cycC
  split
  · rename_i h
    have h8 : n.toNat ≤ 8 := by
      unfold cycB at h
      rw [Bool.and_eq_true] at h
      have := h.1
      simp only [inB, decide_eq_true_eq] at this
      omega
    have := tot3_cub n.toNat h8 (cyc n.toNat k)
    unfold cocycle_tot
    simp only [List.length_cons, List.length_nil]
    omega
  · decide
set_option maxHeartbeats 4000000 in
theorem specCyc_c (w : World) (n : Int) (wn : i64ok n) (k : Int) (wk : i64ok k) : Calls Try.prog 18 #[.int .i64 n, .int .i64 k] w (MkEC cocycle_E w (cycC n k) (cycK n k)) := by
  have hb0 : Below w.heap.size w (w.alloc (.cells #[.slice none 0 0, .int .i64 0, .slice none 0 0] 25)) := (Below.refl _ _).alloc (Nat.le_refl _) _
  have br0 : Blk (w.alloc (.cells #[.slice none 0 0, .int .i64 0, .slice none 0 0] 25)) w.heap.size 25 #[.slice none 0 0, .int .i64 0, .slice none 0 0] := Blk.new _ _ _
  by_cases h1 : 1 ≤ n ∧ n ≤ 8
  rotate_left
  · have hE := hide (cyc_1 (n := n) (k := k) (by unfold cycB; rw [inB_f h1]; rfl))
    have hi := inB_f h1
    clear h1
    go_enter Try.func18, Try.ntmps18
    go_wp2_with fail
    refine (l01In_v false n 1 8 _ hi).mono ?_
    rintro e w1 ⟨rfl, d, rfl⟩
    have br := br0.drewN d
    have hbw := below_drewN hb0 d
    obtain ⟨w1, hw1⟩ : ∃ w1, (w.alloc (.cells #[.slice none 0 0, .int .i64 0, .slice none 0 0] 25)).drewN d = w1 := ⟨_, rfl⟩
    rw [hw1] at br hbw ⊢
    clear hw1 br0 hb0
    have g0 := br.frozen 0
    have g1 := br.frozen 1
    have g2 := br.frozen 2
    have y0 := br.cell 0
    have y1 := br.cell 1
    have y2 := br.cell 2
    have hb3 := put3_blk (x := .slice none 0 0) (y := .int .i64 0) (z := .slice none 0 0) br
    have q0 := hb3.cell 0
    have q1 := hb3.cell 1
    have q2 := hb3.cell 2
    unfold put3 at q0 q1 q2
    go_wp2_with fail
    refine bodyPost_ret (v := .tuple #[.agg #[.slice none 0 0, .int .i64 0, .slice none 0 0], .int .i64 2]) (by simp [results, Try.results18, go_sem, q0, q1, q2]) rfl ?_
    rw [hE.out.1, hE.out.2]
    exact ⟨_, rfl, cocycle_zero _ _ (fun b hb => hb.2), put3_below hbw (Nat.le_refl _)⟩
  obtain ⟨hn1, hn8⟩ := h1
  obtain ⟨n, rfl⟩ : ∃ m : Nat, n = (m : Int) := ⟨n.toNat, by omega⟩
  have hi := inB_t hn1 hn8
  have hw1 : IntKind.i64.wrap ((n : Int) - 1) = (n : Int) - 1 := wr64 _ ⟨by omega, by omega⟩
  by_cases h2 : 0 ≤ k ∧ k ≤ (n : Int) - 1
  rotate_left
  · have hi2 := inB_f h2
    have hE := hide (cyc_1 (n := n) (k := k) (by unfold cycB; rw [hi2, Bool.and_false]))
    clear h2
    go_enter Try.func18, Try.ntmps18
    go_wp2_with fail
    refine (l01In_v true n 1 8 _ hi).mono ?_
    rintro e w1 ⟨rfl, d, rfl⟩
    go_wp2_with fail
    refine (l01In_v false k 0 (n - 1) _ hi2).mono ?_
    rintro e w1 ⟨rfl, d2, rfl⟩
    have br := (br0.drewN d).drewN d2
    have hbw := below_drewN (below_drewN hb0 d) d2
    obtain ⟨w1, hw1⟩ : ∃ w1, ((w.alloc (.cells #[.slice none 0 0, .int .i64 0, .slice none 0 0] 25)).drewN d).drewN d2 = w1 := ⟨_, rfl⟩
    rw [hw1] at br hbw ⊢
    clear hw1 br0 hb0
    have g0 := br.frozen 0
    have g1 := br.frozen 1
    have g2 := br.frozen 2
    have y0 := br.cell 0
    have y1 := br.cell 1
    have y2 := br.cell 2
    have hb3 := put3_blk (x := .slice none 0 0) (y := .int .i64 0) (z := .slice none 0 0) br
    have q0 := hb3.cell 0
    have q1 := hb3.cell 1
    have q2 := hb3.cell 2
    unfold put3 at q0 q1 q2
    go_wp2_with fail
    refine bodyPost_ret (v := .tuple #[.agg #[.slice none 0 0, .int .i64 0, .slice none 0 0], .int .i64 2]) (by simp [results, Try.results18, go_sem, q0, q1, q2]) rfl ?_
    rw [hE.out.1, hE.out.2]
    exact ⟨_, rfl, cocycle_zero _ _ (fun b hb => hb.2), put3_below hbw (Nat.le_refl _)⟩
  have hi2 := inB_t h2.1 h2.2
  have hE := hide (cyc_2 (n := n) (k := k) (by unfold cycB; rw [hi, hi2]; rfl))
  obtain ⟨hk0, hk1⟩ := h2
  go_enter Try.func18, Try.ntmps18
  go_wp2_with fail
  refine (l01In_v true n 1 8 _ hi).mono ?_
  rintro e w1 ⟨rfl, d, rfl⟩
  go_wp2_with fail
  refine (l01In_v true k 0 (n - 1) _ hi2).mono ?_
  rintro e w1 ⟨rfl, d2, rfl⟩
  have br := (br0.drewN d).drewN d2
  have hbw := below_drewN (below_drewN hb0 d) d2
  obtain ⟨w1, hw1'⟩ : ∃ w1, ((w.alloc (.cells #[.slice none 0 0, .int .i64 0, .slice none 0 0] 25)).drewN d).drewN d2 = w1 := ⟨_, rfl⟩
  rw [hw1'] at br hbw ⊢
  have hrl := br.lt
  clear hw1' br0 hb0
  go_wp2_with fail
  refine (l17Cyclic_any w1 n k (by omega) (by omega) hk0 (by omega)).mono ?_
  rintro e w2 ⟨v, rfl, he, hb2⟩
  obtain ⟨A1, n1, c1, z1, D1, m1, e1, rfl, hz1⟩ := cocycle_form (cocycle_rd he)
  have br2 := br.all hb2
  have hbw2 := hbw.trans (hb2.mono hbw.size)
  clear br hz1
  have g0 := br2.frozen 0
  have g1 := br2.frozen 1
  have g2 := br2.frozen 2
  have y0 := br2.cell 0
  have y1 := br2.cell 1
  have y2 := br2.cell 2
  have hb3 := put3_blk (x := .slice A1 n1 c1) (y := .int .i64 z1) (z := .slice D1 m1 e1) br2
  have q0 := hb3.cell 0
  have q1 := hb3.cell 1
  have q2 := hb3.cell 2
  unfold put3 at q0 q1 q2
  go_wp2_with fail
  refine bodyPost_ret (v := .tuple #[.agg #[.slice A1 n1 c1, .int .i64 z1, .slice D1 m1 e1], .int .i64 0]) (by simp [results, Try.results18, go_sem, q0, q1, q2]) rfl ?_
  rw [hE.out.1, hE.out.2]
  exact ⟨_, rfl, cocycle_put he hbw2 hrl (Nat.le_refl _), put3_below hbw2 (Nat.le_refl _)⟩
theorem carry_any (w : World) (q : Int) (y z n : Nat) (hy : y ≤ 100) (hz : z ≤ 100) : Calls Try.prog 59 #[.int .i64 q, .int .i64 y, .int .i64 z, .int .i64 n] w (Re w (.int .i64 (if (n : Int) ≤ (y : Int) + z then q else 0))) := by
  by_cases h : (n : Int) ≤ (y : Int) + z
  · rw [if_pos h]
    go_enter Try.func59, Try.ntmps59
    go_wp2_with fail
    go_ret
    exact ⟨rfl, Below.refl _ _⟩
  · rw [if_neg h]
    go_enter Try.func59, Try.ntmps59
    go_wp2_with fail
    go_ret
    exact ⟨rfl, Below.refl _ _⟩
theorem cycF_any (w : World) (p q x y z n : Nat) (k : Int) (hp : w.cell? ⟨p, 0, none⟩ = some (.int .i64 k)) (hq : w.cell? ⟨q, 0, none⟩ = some (.int .i64 n)) (hx : x < 8) (hy : y < 8) (hz : z < 8) (k0 : 0 ≤ k) (k1 : k ≤ 8) (hn : n ≤ 8) :
    Calls Try.prog 58 #[.int .i64 x, .int .i64 y, .int .i64 z, .pointer (some ⟨p, 0, none⟩), .pointer (some ⟨q, 0, none⟩)] w (Re w (.int .i64 (if (n : Int) ≤ (y : Int) + z then k * (x : Int) else 0))) := by
  have hkx0 : 0 ≤ k * (x : Int) := Int.mul_nonneg k0 (by omega)
  have hkx1 : k * (x : Int) ≤ 8 * 8 := Int.mul_le_mul k1 (by omega) (by omega) (by omega)
  have w1 : IntKind.i64.wrap (k * (x : Int)) = k * (x : Int) := wr64 _ ⟨by omega, by omega⟩
  have w2 : IntKind.i64.wrap (x : Int) = x := wr64 _ ⟨by omega, by omega⟩
  have w3 : IntKind.i64.wrap (n : Int) = n := wr64 _ ⟨by omega, by omega⟩
  have HC := hide (carry_any w (k * (x : Int)) y z n (by omega) (by omega))
  obtain ⟨r, hr⟩ : ∃ r, (if (n : Int) ≤ (y : Int) + z then k * (x : Int) else 0) = r := ⟨_, rfl⟩
  rw [hr] at HC ⊢
  clear hr
  go_enter Try.func58, Try.ntmps58
  go_wp2_with fail
  refine HC.out.mono ?_
  rintro e w' ⟨rfl, hb⟩
  go_wp2_with fail
  go_ret
  exact ⟨rfl, hb⟩
set_option maxHeartbeats 8000000 in
theorem cby_cyc (w : World) (A : Option Addr) (nn c : Nat) (os : List Int) (M : Int) (p q : Nat) (num : Nat → Nat → Nat → Int) (h : Sl w w.heap.size A nn c os) (hn : nn ≤ 1048576) (hH : OkH os) (hp8 : prodL os ≤ 8) (m1 : 1 ≤ M) (m2 : M ≤ 1000)
    (hcall : ∀ x y z, x < (prodL os).toNat → y < (prodL os).toNat → z < (prodL os).toNat → ∀ wd, Below w.heap.size w wd → Calls Try.prog 58 #[.int .i64 x, .int .i64 y, .int .i64 z, .pointer (some ⟨p, 0, none⟩), .pointer (some ⟨q, 0, none⟩)] wd (Re wd (.int .i64 (num x y z)))) :
    Calls Try.prog 50 #[.slice A nn c, .int .i64 M, .func (.func 58) #[] #[.pointer (some ⟨p, 0, none⟩), .pointer (some ⟨q, 0, none⟩)]] w (MkE cocycle_E w (os, M, cub (prodL os).toNat fun x y z => num x y z % M)) := by
  obtain rfl := h.len
  have hp1 := hH.ge
  obtain ⟨n, hN⟩ : ∃ n : Nat, (prodL os).toNat = n := ⟨_, rfl⟩
  have hnp : prodL os = n := by omega
  rw [hN] at hcall ⊢
  have HC := hide hcall
  have hgs := fun W B (hW : Sl W B A os.length c os) => groupSize_any W B A os.length c os hW hn
  have hgz : gsz os = n := by rw [gsz_ok ⟨hH.l1, hH.m1⟩]; omega
  rw [hgz] at hgs
  have HG := hide hgs
  have hn8 : n ≤ 8 := by omega
  have hn1 : 1 ≤ n := by omega
  clear hcall hgs hgz hN hnp hp1 hp8
  go_enter Try.func50, Try.ntmps50
  go_wp2_with fail
  have hb0 : Below w.heap.size w (w.alloc (.cells #[.slice none 0 0, .int .i64 0, .slice none 0 0] 25)) := (Below.refl _ _).alloc (Nat.le_refl _) _
  have br0 : Blk (w.alloc (.cells #[.slice none 0 0, .int .i64 0, .slice none 0 0] 25)) w.heap.size 25 #[.slice none 0 0, .int .i64 0, .slice none 0 0] := Blk.new _ _ _
  refine ((clone_any _ w.heap.size _ _ _ _ (h.below hb0) (by simp) hn).mono fun _ _ hh => mkE1 hh h.rng).mono ?_
  rintro e w1 ⟨vo, rfl, ho, hb1⟩
  obtain ⟨Ao, co, rfl, _⟩ := ho.sl
  have hb1' := hb0.trans (hb1.mono (by simp))
  have br1 := br0.all hb1
  have hsz1 := hb1.size
  simp only [World.size_alloc] at hsz1 ho
  go_wp2_with fail
  refine (HG.out _ _ (h.below hb1')).mono ?_
  rintro e w2 ⟨rfl, d, rfl⟩
  obtain ⟨w2, hw2⟩ : ∃ w2, w1.drewN d = w2 := ⟨_, rfl⟩
  have hb2 : Below w1.heap.size w1 w2 := by rw [← hw2]; exact below_drewN (Below.refl _ _) _
  have br2 := br1.all hb2
  have ho2 := E1.below ho hb2
  have hb2' := hb1'.trans (hb2.mono hb1'.size)
  have hs2 : w2.heap.size = w1.heap.size := by rw [← hw2]; rfl
  rw [hw2]
  clear hw2 hb0 br0 br1
  obtain ⟨g, hg⟩ : ∃ g, w1.heap.size = g := ⟨_, rfl⟩
  rw [hg] at hsz1 ho2 hs2
  go_wp2_with fail
  obtain ⟨w3, hw3⟩ : ∃ w3, w2.alloc (.cells #[.slice Ao os.length co, .int .i64 M, .slice none 0 0] 25) = w3 := ⟨_, rfl⟩
  have hC3 : CBy w w.heap.size g (.slice Ao os.length co) os M (.slice none 0 0) [] w3 := by
    rw [← hw3]
    refine ⟨br2.alloc _, Blk.new' _ _ _ _ hs2, E1.mono (E1.below ho2 ((Below.refl _ _).alloc (Nat.le_refl _) _)) (fun b hb => ⟨by have := hb.1; omega, hb.2⟩) (fun b hb => by have := hb.2; simp; omega), Grow.nil _, Nat.le_refl _, by omega, hb2'.alloc hb2'.size _⟩
  try rw [hg]
  rw [hw3]
  clear hw3 br2 ho2 hb2' hs2 ho hb1 hb1' hb2 hg hsz1
  go_loopw [20] (fun i wr => ∃ (k : Nat) (vv : Value), k ≤ n ∧ i = .int .i64 k ∧ CBy w w.heap.size g (.slice Ao os.length co) os M vv ((List.range k).map fun x => mat n fun y z => num x y z % M) wr) (fun i _ => n - (intOf i).toNat)
  case atStart => exact ⟨0, _, by omega, rfl, hC3⟩
  case round =>
    clear hC3
    obtain ⟨k, vv, hk, rfl, hCB⟩ := hrel
    by_cases hlk : k < n
    · obtain ⟨w4, rfl⟩ : ∃ w4, w4 = wr := ⟨_, rfl⟩
      have hw4 := hCB.below.size
      have hg4 := hCB.out.lt
      go_wp2_with fail
      refine (zeros_any w4 n n (by omega) (by omega)).mono ?_
      rintro e w5 ⟨vr, rfl, hGr, hb5⟩
      have hEr := hGr.toL
      obtain ⟨Ar', cr, rfl⟩ := hGr.val
      rw [List.length_replicate] at hEr hGr ⊢
      rw [← pm_zero n fun y z => num k y z % M] at hEr
      obtain ⟨S5, hS5⟩ : ∃ S5, w5.heap.size = S5 := ⟨_, rfl⟩
      have hE5 : E2 w5 (.slice Ar' n cr) (pm n (fun y z => num k y z % M) 0 0) (fun b => w4.heap.size ≤ b ∧ b < S5) := by rw [← hS5]; exact hEr
      clear hEr hGr hS5
      go_wp2_with fail
      go_loopw [27] (fun i wx => ∃ y : Nat, y ≤ n ∧ i = .int .i64 y ∧ E2 wx (.slice Ar' n cr) (pm n (fun y z => num k y z % M) y 0) (fun b => w4.heap.size ≤ b ∧ b < S5) ∧ Below w4.heap.size w4 wx) (fun i _ => n - (intOf i).toNat)
      case atStart => exact ⟨0, by omega, rfl, hE5, hb5⟩
      case round =>
        clear hE5 hb5
        obtain ⟨y, hy, rfl, hE5, hb5⟩ := hrel
        by_cases hly : y < n
        · go_wp2_with fail
          go_loopw [31] (fun i wx => ∃ z : Nat, z ≤ n ∧ i = .int .i64 z ∧ E2 wx (.slice Ar' n cr) (pm n (fun y z => num k y z % M) y z) (fun b => w4.heap.size ≤ b ∧ b < S5) ∧ Below w4.heap.size w4 wx) (fun i _ => n - (intOf i).toNat)
          case atStart => exact ⟨0, by omega, rfl, hE5, hb5⟩
          case round =>
            clear hE5 hb5
            obtain ⟨z, hz, rfl, hE5, hb5⟩ := hrel
            by_cases hlz : z < n
            · have hm0 := Int.emod_nonneg (num k y z) (show M ≠ 0 by omega)
              have hm1 := Int.emod_lt_of_pos (num k y z) (show 0 < M by omega)
              obtain ⟨gr, g2, cr', c2, ev, hgr, hg2, x1, ⟨u, x2⟩, x3, x4, HL⟩ := E2.later hE5 hly hlz ⟨by omega, by omega⟩
              injection ev with ev1 _ ev2
              subst ev1
              subst ev2
              have HLA := hide HL
              have hCx := hCB.bel hb5
              have y0 := hCx.out.cell 0
              have y1 := hCx.out.cell 1
              have y2 := hCx.out.cell 2
              have hgx := hCx.out.lt
              have hcl := HC.out k y z hlk hly hlz
              obtain ⟨q, hq⟩ : ∃ q, num k y z = q := ⟨_, rfl⟩
              rw [hq] at hcl hm0 hm1
              have HQ := hide hq
              have HCL := hide hcl
              have X1 := hide x1
              have X2 := hide x2
              have X3 := hide x3
              have Y0 := hide y0
              have Y1 := hide y1
              have Y2 := hide y2
              clear HL hcl hq x1 x2 x3 y0 y1 y2
              obtain ⟨w6, rfl⟩ : ∃ w6, w6 = wr := ⟨_, rfl⟩
              have hb6w := hCx.below
              go_wp2_with fail
              refine wp_region_be [0, 1, 2, 3, 4, 5, 6, 7, 8, 9, 10, 11, 12, 13] 12 w6.heap.size w6 (by kernel_rfl) (by kernel_rfl) (by kernel_rfl) (fun _ _ _ _ _ h => h) (Below.refl _ _) (fun wd hBe => ?_)
              repeat (first | (apply ord_tk rfl (by rfl) (by rfl) (by rfl); (focus (intro wx hSw; have r0 := (hSw.cell (p := ⟨g, 0, none⟩) hgx).trans Y0.out; have r1 := (hSw.cell (p := ⟨g, 1, none⟩) hgx).trans Y1.out; have r2 := (hSw.cell (p := ⟨g, 2, none⟩) hgx).trans Y2.out; have r3 := (hSw.cell (p := ⟨gr, y, none⟩) hgr).trans X1.out; go_simp; (try with_reducible rfl))); (try simp only [Act.put, List.setIfInBounds_toArray, List.set_cons_zero, List.set_cons_succ])) | (apply ord_skip rfl (by rfl) (by rfl) (fun _ => hBe); (try simp only [Act.put, List.setIfInBounds_toArray, List.set_cons_zero, List.set_cons_succ])))
              refine ord_do rfl (by rfl) (by rfl) (fun K hK => ?_)
              go_simp
              refine (HCL.out _ (hb6w.trans (hBe.mono hb6w.size))).mono ?_
              rintro e wd' ⟨rfl, hwd⟩
              replace hBe := hBe.trans (hwd.mono hBe.size)
              clear hwd
              refine hK.out _ _ (fun _ => hBe) ?_
              (try simp only [Act.put, List.setIfInBounds_toArray, List.set_cons_zero, List.set_cons_succ])
              clear hK K
              repeat (first | (apply ord_tk rfl (by rfl) (by rfl) (by rfl); (focus (intro wx hSw; have r0 := (hSw.cell (p := ⟨g, 0, none⟩) hgx).trans Y0.out; have r1 := (hSw.cell (p := ⟨g, 1, none⟩) hgx).trans Y1.out; have r2 := (hSw.cell (p := ⟨g, 2, none⟩) hgx).trans Y2.out; have r3 := (hSw.cell (p := ⟨gr, y, none⟩) hgr).trans X1.out; go_simp; (try with_reducible rfl))); (try simp only [Act.put, List.setIfInBounds_toArray, List.set_cons_zero, List.set_cons_succ])) | (apply ord_skip rfl (by rfl) (by rfl) (fun _ => hBe); (try simp only [Act.put, List.setIfInBounds_toArray, List.set_cons_zero, List.set_cons_succ])))
              refine ord_do rfl (by rfl) (by rfl) (fun K hK => ?_)
              go_simp
              refine (restC_any _ _ _ M q m1 (by omega)).mono ?_
              rintro e wd' ⟨rfl, hwd⟩
              replace hBe := hBe.trans (hwd.mono hBe.size)
              clear hwd
              refine hK.out _ _ (fun _ => hBe) ?_
              (try simp only [Act.put, List.setIfInBounds_toArray, List.set_cons_zero, List.set_cons_succ])
              clear hK K
              repeat (first | (apply ord_tk rfl (by rfl) (by rfl) (by rfl); (focus (intro wx hSw; have r0 := (hSw.cell (p := ⟨g, 0, none⟩) hgx).trans Y0.out; have r1 := (hSw.cell (p := ⟨g, 1, none⟩) hgx).trans Y1.out; have r2 := (hSw.cell (p := ⟨g, 2, none⟩) hgx).trans Y2.out; have r3 := (hSw.cell (p := ⟨gr, y, none⟩) hgr).trans X1.out; go_simp; (try with_reducible rfl))); (try simp only [Act.put, List.setIfInBounds_toArray, List.set_cons_zero, List.set_cons_succ])) | (apply ord_skip rfl (by rfl) (by rfl) (fun _ => hBe); (try simp only [Act.put, List.setIfInBounds_toArray, List.set_cons_zero, List.set_cons_succ])))
              have s2 := (hBe.cell (p := ⟨g2, z, none⟩) hg2).trans X2.out
              have s3 := (hBe.frozen (p := ⟨g2, z, none⟩) hg2).trans X3.out
              refine ord_do rfl (by rfl) (by rfl) (fun K hK => ?_)
              go_simp
              refine hK.out _ _ (fun h => absurd h (by omega)) ?_
              (try simp only [Act.put, List.setIfInBounds_toArray, List.set_cons_zero, List.set_cons_succ])
              clear hK K
              refine ord_do rfl (by rfl) (by rfl) (fun K hK => ?_)
              go_simp
              refine hK.out _ _ (fun h => absurd h (by omega)) ?_
              (try simp only [Act.put, List.setIfInBounds_toArray, List.set_cons_zero, List.set_cons_succ])
              clear hK K
              refine ord_nil ?_
              have hE6 := HLA.out wd' hBe
              rw [HQ.out] at hE6
              clear s2 s3
              go_wp2_with fail
              go_roundw
              case rel => exact ⟨z + 1, by omega, by go_num, hE6, (hb5.trans (hBe.mono hb5.size)).setCell x4.1 _⟩
              case measure => simp [intOf] <;> omega
            · obtain rfl : z = n := by omega
              rw [pm_next] at hE5
              go_wp2_with fail
              go_roundw
              case rel => exact ⟨y + 1, by omega, by go_num, hE5, hb5⟩
              case measure => simp [intOf] <;> omega
        · obtain rfl : y = n := by omega
          rw [pm_all] at hE5
          obtain ⟨w6, rfl⟩ : ∃ w6, w6 = wr := ⟨_, rfl⟩
          have hCx := hCB.bel hb5
          have y2 := hCx.out.cell 2
          have z2 := hCx.out.frozen 2
          have hgx := hCx.out.lt
          have hl6 := hb5.size
          have hbw : Below w6.heap.size w6 (w6.alloc (.cells #[.slice Ar' y cr] 35)) := (Below.refl _ _).alloc (Nat.le_refl _) _
          have hE6 := E2.below hE5 hbw
          have hlen : ((List.range k).map fun x => mat y fun y z => num x y z % M).length ≤ 1048576 := by simp; omega
          have hg4' : g + 1 ≤ w4.heap.size := hg4
          obtain ⟨Av, cv, rfl⟩ := hCB.vals.val
          rw [List.length_map, List.length_range] at *
          have hgL : g < (w6.alloc (.cells #[.slice Ar' y cr] 35)).heap.size := by simp; omega
          go_wp2_with (at_builtin; refine list_pushG kp2 23 35 _ 24 Try.underlying23 rows2_info (by omega) rfl _ rfl _ _ rfl (g + 1) (.slice Av k cv) _ rfl w4 hCB.vals (hb5.trans (hbw.mono hl6)) (.slice Ar' y cr) _ _ hE6 (fun b hb => ⟨hb.1, by have := hE5.bd b hb; simp; omega⟩) rfl w6.heap.size _ rfl (Blk.new _ _ _) (by simp; omega) hg4' (by simp) ?_; intro g' cap' w7 hG7 hB7 hW7 hg7 hg8; have t2 := (hB7.cell (p := ⟨g, 2, none⟩) (Nat.lt_succ_self g)).trans ((hbw.cell (p := ⟨g, 2, none⟩) hgx).trans y2); have t3 := (hB7.frozen (p := ⟨g, 2, none⟩) (Nat.lt_succ_self g)).trans ((hbw.frozen (p := ⟨g, 2, none⟩) hgx).trans z2))
          have hN := hCB.next (hb5.trans (hbw.mono hl6)) hB7 hG7
          rw [List.length_map, List.length_range, cub_snoc' (f := fun x y z => num x y z % M)] at hN
          go_roundw
          case rel => exact ⟨k + 1, _, by omega, by go_num, hN⟩
          case measure => simp [intOf] <;> omega
    · obtain rfl : k = n := by omega
      obtain ⟨Av, cv, rfl⟩ := hCB.vals.val
      rw [List.length_map, List.length_range] at *
      have hfin := hCB.fin
      have x0 := hCB.out.cell 0
      have x1 := hCB.out.cell 1
      have x2 := hCB.out.cell 2
      have g0 := hCB.res.frozen 0
      have g1 := hCB.res.frozen 1
      have g2 := hCB.res.frozen 2
      have y0 := hCB.res.cell 0
      have y1 := hCB.res.cell 1
      have y2 := hCB.res.cell 2
      have hb3 := put3_blk (x := .slice Ao os.length co) (y := .int .i64 M) (z := .slice Av k cv) hCB.res
      have q0 := hb3.cell 0
      have q1 := hb3.cell 1
      have q2 := hb3.cell 2
      unfold put3 at q0 q1 q2
      go_wp2_with fail
      refine bodyPost_ret (v := .agg #[.slice Ao os.length co, .int .i64 M, .slice Av k cv]) (by simp [results, Try.results50, go_sem, q0, q1, q2]) rfl ?_
      exact ⟨_, rfl, ⟨show i64ok M from ⟨by omega, by omega⟩, hfin⟩, put3_below hCB.below (Nat.le_refl _)⟩
end Go.Proofs.Ythjlpgaoemdmkaa
