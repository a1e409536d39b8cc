
/- The walk of l17Mixed (the reference's MixedCocycle). -/
import Derived.Test.YthjlpgaoemdmkaaCB5
namespace Go.Proofs.Ythjlpgaoemdmkaa
open Go Go.RowKit Grp
set_option linter.unusedSimpArgs false
set_option linter.unusedVariables false
set_option maxRecDepth 100000

/-- The mixed cocycle's numbers. -/
def mix (n m : Nat) (k : Int) (x y z : Nat) : Int := (if (m : Int) ≤ ((y % m : Nat) : Int) + ((z % m : Nat) : Int) then k * ((x / m : Nat) : Int) else 0) % (Nat.gcd n m : Nat)
theorem gcd_step' (p q : Nat) : Nat.gcd q (p % q) = Nat.gcd p q := by rw [Nat.gcd_comm q, ← Nat.gcd_rec, Nat.gcd_comm]
set_option maxHeartbeats 8000000 in
theorem l17Mixed_any (w : World) (n m : Nat) (k : Int) (n1 : 1 ≤ n) (m1 : 1 ≤ m) (hp : n * m ≤ 8) (k0 : 0 ≤ k) (k1 : k ≤ 7) : Calls Try.prog 60 #[.int .i64 n, .int .i64 m, .int .i64 k] w (MkE cocycle_E w ([(n : Int), (m : Int)], ((Nat.gcd n m : Nat) : Int), cub (n * m) (mix n m k))) := by
  have n8 : n ≤ 8 := Nat.le_trans (Nat.le_mul_of_pos_right n m1) hp
  have m8 : m ≤ 8 := Nat.le_trans (Nat.le_mul_of_pos_left m n1) hp
  have hNp : 1 ≤ n * m := Nat.mul_pos n1 m1
  have hG1 : 0 < Nat.gcd n m := Nat.gcd_pos_of_pos_left m n1
  have hG8 : Nat.gcd n m ≤ n := Nat.gcd_le_left m n1
  have hmix := hide (fun x y z => show mix n m k x y z = (if (m : Int) ≤ ((y % m : Nat) : Int) + ((z % m : Nat) : Int) then k * ((x / m : Nat) : Int) else 0) % (Nat.gcd n m : Nat) from rfl)
  obtain ⟨f, hf⟩ : ∃ f, mix n m k = f := ⟨_, rfl⟩
  obtain ⟨N, hN⟩ : ∃ N, n * m = N := ⟨_, rfl⟩
  have hNi : (n : Int) * (m : Int) = (N : Int) := by rw [← hN]; push_cast; rfl
  have hwN : IntKind.i64.wrap ((n : Int) * (m : Int)) = (N : Int) := by rw [hNi]; exact wr64 _ ⟨by omega, by omega⟩
  obtain ⟨G, hG⟩ : ∃ G, Nat.gcd n m = G := ⟨_, rfl⟩
  have HGc := hide hG
  rw [hf, hG] at hmix
  rw [hf, hN, hG]
  rw [hN] at hp hNp
  rw [hG] at hG1 hG8
  clear hf hG hN hNi
  go_enter Try.func60, Try.ntmps60
  go_wp2_with fail
  obtain ⟨W1, hW1⟩ : ∃ W, w.alloc (.cells #[.slice none 0 0, .int .i64 0, .slice none 0 0] 25) = W := ⟨_, rfl⟩
  have hb01 : Below w.heap.size w W1 := by rw [← hW1]; exact (by repeat (first | assumption | exact Below.refl _ _ | apply below_drewN | apply Below.drew | apply Below.alloc | apply Below.setCell | omega | (focus (simp; done)) | (focus (simp; omega))))
  have br1' : Blk W1 w.heap.size 25 #[.slice none 0 0, .int .i64 0, .slice none 0 0] := by rw [← hW1]; exact Blk.new _ _ _
  have hsz1 : W1.heap.size = w.heap.size + 1 := by rw [← hW1]; simp
  rw [hW1]
  clear hW1
  go_loopw [7, 8] (fun x y wr => ∃ p q : Nat, x = .int .i64 p ∧ y = .int .i64 q ∧ p ≤ 8 ∧ q ≤ 8 ∧ Nat.gcd p q = G ∧ wr = W1) (fun _ y _ => (intOf y).toNat)
  case atStart => exact ⟨n, m, rfl, rfl, n8, m8, HGc.out, rfl⟩
  case round =>
    obtain ⟨p, q, rfl, rfl, hpp, hqq, hg, rfl⟩ := hrel
    by_cases hz : 0 < q
    · have hlt : p % q < q := Nat.mod_lt _ (by omega)
      have hS := hide (gcd_step' p q)
      have hg' := hide hg
      clear hg
      have t0 : ¬ (q : Int) = 0 := by omega
      have t0' : ¬ q = 0 := by omega
      obtain ⟨r, hr⟩ : ∃ r, p % q = r := ⟨_, rfl⟩
      have t1 : (p : Int).tmod q = r := by rw [Int.tmod_eq_emod_of_nonneg (by omega), ← hr]; rfl
      have t2 : (p : Int) % q = r := by rw [← hr]; rfl
      have hS2 := hide (show Nat.gcd q r = G by rw [← hr, hS.out, hg'.out])
      rw [hr] at hlt
      clear hr
      go_wp2_with fail
      go_roundw
      case rel => exact ⟨q, r, rfl, rfl, by omega, by omega, hS2.out, (by trivial)⟩
      case measure => simp [intOf] <;> omega
    · obtain rfl : q = 0 := by omega
      obtain rfl : p = G := by rw [← hg, Nat.gcd_zero_right]
      clear hg hz hqq hpp
      obtain ⟨G, rfl⟩ : ∃ G, G = p := ⟨_, rfl⟩
      go_wp2_with fail
      obtain ⟨W, hW⟩ : ∃ W, wr.alloc (.cells #[.int .i64 n, .int .i64 m] 2) = W := ⟨_, rfl⟩
      have hb0 : Below w.heap.size w W := by rw [← hW]; exact hb01.alloc hb01.size _
      have br : Blk W w.heap.size 25 #[.slice none 0 0, .int .i64 0, .slice none 0 0] := by rw [← hW]; exact br1'.alloc _
      have ho : E1 W (.slice (some ⟨w.heap.size + 1, 0, none⟩) 2 2) [(n : Int), (m : Int)] (fun b => w.heap.size < b ∧ b < W.heap.size) := by
        have h1 : Ow W (w.heap.size + 1) (.slice (some ⟨w.heap.size + 1, 0, none⟩) 2 2) [(n : Int), (m : Int)] := by rw [← hW]; exact Ow.made' (xs := [(n : Int), (m : Int)]) _ _ (w.heap.size + 1) 2 hsz1 rfl (Nat.le_refl _) rfl (by unfold maxLen; omega)
        exact (E1.of_ow h1 (by unfold i64ok; simp; omega)).mono (fun b hb => ⟨by have := hb.1; omega, hb.2⟩) (fun b hb => hb.2)
      have hsz : w.heap.size < W.heap.size := by rw [← hW]; simp; omega
      rw [hW]
      clear hW
      refine (l06Empty_any W N (by omega)).mono ?_
      rintro e w1 ⟨vv, rfl, hGr, hb1⟩
      have hv := hGr.toL
      obtain ⟨Av, cv, rfl⟩ := hGr.val
      rw [List.length_replicate] at hv ⊢
      rw [← pc_zero (n := N) (f := f)] at hv
      have br1 := br.all hb1
      have ho1 := E1.below ho hb1
      have hb2 := hb0.trans (hb1.mono hb0.size)
      have hs1 := hb1.size
      obtain ⟨S, hS⟩ : ∃ S, W.heap.size = S := ⟨_, rfl⟩
      rw [hS] at hsz ho1 hv hs1
      clear hGr br ho hS hb1 hb0 br1' hb01 hsz1
      go_wp2_with fail
      obtain ⟨g, hg⟩ : ∃ g, w1.heap.size = g := ⟨_, rfl⟩
      rw [hg] at hs1 hv
      obtain ⟨w2, hw2⟩ : ∃ w2, w1.alloc (.cells #[.slice (some ⟨w.heap.size + 1, 0, none⟩) 2 2, .int .i64 G, .slice Av N cv] 25) = w2 := ⟨_, rfl⟩
      have hb2a : Below w1.heap.size w1 w2 := by rw [← hw2]; exact (Below.refl _ _).alloc (Nat.le_refl _) _
      have hS2 : SBy w w.heap.size S g (.slice (some ⟨w.heap.size + 1, 0, none⟩) 2 2) [(n : Int), (m : Int)] G (.slice Av N cv) (pc N f 0 0 0) w2 := by
        refine ⟨br1.all hb2a, by rw [← hw2]; exact Blk.new' _ _ _ _ hg, E1.below ho1 hb2a, E3.below hv hb2a, Nat.le_refl _, hsz, hs1, hb2.trans (hb2a.mono hb2.size)⟩
      try rw [hg]
      rw [hw2]
      clear hw2 br1 ho1 hv hb2 hb2a hg
      go_loopw [11] (fun i wr => ∃ x : Nat, x ≤ N ∧ i = .int .i64 x ∧ SBy w w.heap.size S g (.slice (some ⟨w.heap.size + 1, 0, none⟩) 2 2) [(n : Int), (m : Int)] G (.slice Av N cv) (pc N f x 0 0) wr) (fun i _ => N - (intOf i).toNat)
      case atStart => exact ⟨0, by omega, rfl, hS2⟩
      case round =>
        clear hS2
        obtain ⟨x, hx, rfl, hS⟩ := hrel
        by_cases hlx : x < N
        · go_wp2_with fail
          go_loopw [12] (fun i wr => ∃ y : Nat, y ≤ N ∧ i = .int .i64 y ∧ SBy w w.heap.size S g (.slice (some ⟨w.heap.size + 1, 0, none⟩) 2 2) [(n : Int), (m : Int)] G (.slice Av N cv) (pc N f x y 0) wr) (fun i _ => N - (intOf i).toNat)
          case atStart => exact ⟨0, by omega, rfl, hS⟩
          case round =>
            clear hS
            obtain ⟨y, hy, rfl, hS⟩ := hrel
            by_cases hly : y < N
            · go_wp2_with fail
              go_loopw [13] (fun i wr => ∃ z : Nat, z ≤ N ∧ i = .int .i64 z ∧ SBy w w.heap.size S g (.slice (some ⟨w.heap.size + 1, 0, none⟩) 2 2) [(n : Int), (m : Int)] G (.slice Av N cv) (pc N f x y z) wr) (fun i _ => N - (intOf i).toNat)
              case atStart => exact ⟨0, by omega, rfl, hS⟩
              case round =>
                clear hS
                obtain ⟨z, hz, rfl, hS⟩ := hrel
                by_cases hlz : z < N
                · have hvf := hmix.out x y z
                  obtain ⟨ym, hym⟩ : ∃ t, y % m = t := ⟨_, rfl⟩
                  obtain ⟨zm, hzm⟩ : ∃ t, z % m = t := ⟨_, rfl⟩
                  have u0 : ¬ m = 0 := by omega
                  have u1 : (y : Int).tmod m = ym := by rw [Int.tmod_eq_emod_of_nonneg (by omega), ← hym]; rfl
                  have u2 : (z : Int).tmod m = zm := by rw [Int.tmod_eq_emod_of_nonneg (by omega), ← hzm]; rfl
                  have u3 : ym < m := by rw [← hym]; exact Nat.mod_lt _ (by omega)
                  have u4 : zm < m := by rw [← hzm]; exact Nat.mod_lt _ (by omega)
                  have u5 : IntKind.i64.wrap ((ym : Int) + zm) = (ym : Int) + zm := wr64 _ ⟨by omega, by omega⟩
                  rw [hym, hzm] at hvf
                  clear hym hzm
                  by_cases hc : m ≤ ym + zm
                  · rw [if_pos (by omega)] at hvf
                    obtain ⟨xm, hxm⟩ : ∃ t, x / m = t := ⟨_, rfl⟩
                    have v1 : (x : Int).tdiv m = xm := by rw [Int.tdiv_eq_ediv_of_nonneg (by omega), ← hxm]; rfl
                    have v2 : xm ≤ x := by rw [← hxm]; exact Nat.div_le_self _ _
                    have v3 : IntKind.i64.wrap (xm : Int) = xm := wr64 _ ⟨by omega, by omega⟩
                    rw [hxm] at hvf
                    clear hxm
                    have hkx0 : 0 ≤ k * (xm : Int) := Int.mul_nonneg k0 (by omega)
                    have hkx1 : k * (xm : Int) ≤ 7 * 8 := Int.mul_le_mul k1 (by omega) (by omega) (by omega)
                    have e1 := Int.emod_nonneg (k * (xm : Int)) (show (G : Int) ≠ 0 by omega)
                    have e2 := Int.emod_lt_of_pos (k * (xm : Int)) (show (0 : Int) < G by omega)
                    obtain ⟨gv, g1, g2, cv', c1, c2, ev, kg0, kg1, kg2, x0, x1, ⟨u, x2⟩, x3, x4, HL⟩ := E3.later hS.vals hlx hly hlz (by rw [hvf]; exact ⟨by omega, by omega⟩)
                    rw [hvf] at HL
                    injection ev with ev1 _ ev2
                    subst ev1
                    subst ev2
                    have HLH := hide HL
                    have Y2 := hide (hS.out.cell 2)
                    have hgl := hS.out.lt
                    have X0 := hide x0
                    have X1 := hide x1
                    have X2 := hide x2
                    have X3 := hide x3
                    have w1' : IntKind.i64.wrap (k * (xm : Int)) = k * (xm : Int) := wr64 _ ⟨by omega, by omega⟩
                    have w2' : (k * (xm : Int)).tmod G = k * (xm : Int) % G := Int.tmod_eq_emod_of_nonneg hkx0
                    have w3' : ¬ G = 0 := by omega
                    obtain ⟨q, hq⟩ : ∃ q, k * (xm : Int) % G = q := ⟨_, rfl⟩
                    rw [hq] at w2' HLH e1 e2
                    clear HL x0 x1 x2 x3 hvf hq
                    obtain ⟨wq, rfl⟩ : ∃ wq, wq = wr := ⟨_, rfl⟩
                    go_wp2_with fail
                    refine wp_region_be [0, 1, 2, 3, 4, 5, 6, 7, 8] 9 wq.heap.size wq (by kernel_rfl) (by kernel_rfl) (by kernel_rfl) (fun _ _ _ _ _ h => h) (Below.refl _ _) (fun wd hBe => ?_)
                    repeat (first | (apply ord_tk rfl (by rfl) (by rfl) (by rfl); (focus (intro wx hSw; skip; go_simp; (try with_reducible rfl))); (try simp only [Act.put, List.setIfInBounds_toArray, List.set_cons_zero, List.set_cons_succ])) | (apply ord_skip rfl (by rfl) (by rfl) (fun _ => hBe); (try simp only [Act.put, List.setIfInBounds_toArray, List.set_cons_zero, List.set_cons_succ])))
                    refine ord_nil ?_
                    obtain ⟨wt, rfl⟩ : ∃ wt, wt = wd := ⟨_, rfl⟩
                    have hBt := hBe
                    clear hBe
                    go_wp2_with fail
                    refine wp_region_be [0, 1, 2, 3, 4, 5, 6, 7, 8, 9, 10, 11, 12, 13, 14, 15, 16, 17] 16 wq.heap.size wq (by kernel_rfl) (by kernel_rfl) (by kernel_rfl) (fun _ _ _ _ _ h => h) hBt (fun wd hBe => ?_)
                    repeat (first | (apply ord_tk rfl (by rfl) (by rfl) (by rfl); (focus (intro wx hSw; have r2 := (hSw.cell (p := ⟨g, 2, none⟩) hgl).trans Y2.out; have r3 := (hSw.cell (p := ⟨gv, x, none⟩) kg0).trans X0.out; have r4 := (hSw.cell (p := ⟨g1, y, none⟩) kg1).trans X1.out; go_simp; (try with_reducible rfl))); (try simp only [Act.put, List.setIfInBounds_toArray, List.set_cons_zero, List.set_cons_succ])) | (apply ord_skip rfl (by rfl) (by rfl) (fun _ => hBe); (try simp only [Act.put, List.setIfInBounds_toArray, List.set_cons_zero, List.set_cons_succ])))
                    have s2 := (hBe.cell (p := ⟨g2, z, none⟩) kg2).trans X2.out
                    have s3 := (hBe.frozen (p := ⟨g2, z, none⟩) kg2).trans X3.out
                    refine ord_do rfl (by rfl) (by rfl) (fun K hK => ?_)
                    go_simp
                    refine hK.out _ _ (fun h => absurd h (by omega)) ?_
                    (try simp only [Act.put, List.setIfInBounds_toArray, List.set_cons_zero, List.set_cons_succ])
                    clear hK K
                    refine ord_do rfl (by rfl) (by rfl) (fun K hK => ?_)
                    go_simp
                    refine hK.out _ _ (fun h => absurd h (by omega)) ?_
                    (try simp only [Act.put, List.setIfInBounds_toArray, List.set_cons_zero, List.set_cons_succ])
                    clear hK K
                    refine ord_nil ?_
                    have HN := hide (hS.step hBe (HLH.out wd hBe) x4)
                    clear s2 s3
                    go_wp2_with fail
                    go_roundw
                    case rel => exact ⟨z + 1, by omega, by go_num, HN.out⟩
                    case measure => simp [intOf] <;> omega
                  · have hsk : f x y z = 0 := by rw [hvf, if_neg (by omega)]; simp
                    obtain ⟨wq, rfl⟩ : ∃ wq, wq = wr := ⟨_, rfl⟩
                    have hS9 := hide hS
                    clear hS hvf
                    go_wp2_with fail
                    refine wp_region_be [0, 1, 2, 3, 4, 5, 6, 7, 8] 9 wq.heap.size wq (by kernel_rfl) (by kernel_rfl) (by kernel_rfl) (fun _ _ _ _ _ h => h) (Below.refl _ _) (fun wd hBe => ?_)
                    repeat (first | (apply ord_tk rfl (by rfl) (by rfl) (by rfl); (focus (intro wx hSw; skip; go_simp; (try with_reducible rfl))); (try simp only [Act.put, List.setIfInBounds_toArray, List.set_cons_zero, List.set_cons_succ])) | (apply ord_skip rfl (by rfl) (by rfl) (fun _ => hBe); (try simp only [Act.put, List.setIfInBounds_toArray, List.set_cons_zero, List.set_cons_succ])))
                    refine ord_nil ?_
                    have h9 := hS9.out.bel hBe
                    rw [← pc_skip hsk] at h9
                    have h10 := hide h9
                    clear h9 hsk
                    go_wp2_with fail
                    go_roundw
                    case rel => exact ⟨z + 1, by omega, by go_num, h10.out⟩
                    case measure => simp [intOf] <;> omega
                · obtain rfl : N = z := by omega
                  have h9 := hS
                  rw [pc_nextz] at h9
                  go_wp2_with fail
                  go_roundw
                  case rel => exact ⟨y + 1, by omega, by go_num, h9⟩
                  case measure => simp [intOf] <;> omega
            · obtain rfl : N = y := by omega
              have h9 := hS
              rw [pc_nexty] at h9
              go_wp2_with fail
              go_roundw
              case rel => exact ⟨x + 1, by omega, by go_num, h9⟩
              case measure => simp [intOf] <;> omega
        · obtain rfl : N = x := by omega
          have h9 := hS
          rw [pc_all] at h9
          have x0 := h9.out.cell 0
          have x1 := h9.out.cell 1
          have x2 := h9.out.cell 2
          have g0 := h9.res.frozen 0
          have g1 := h9.res.frozen 1
          have g2 := h9.res.frozen 2
          have y0 := h9.res.cell 0
          have y1 := h9.res.cell 1
          have y2 := h9.res.cell 2
          have hb3 := put3_blk (x := .slice (some ⟨w.heap.size + 1, 0, none⟩) 2 2) (y := .int .i64 (G : Int)) (z := .slice Av N cv) h9.res
          have q0 := hb3.cell 0
          have q1 := hb3.cell 1
          have q2 := hb3.cell 2
          unfold put3 at q0 q1 q2
          go_wp2_with fail
          refine bodyPost_ret (v := .agg #[.slice (some ⟨w.heap.size + 1, 0, none⟩) 2 2, .int .i64 (G : Int), .slice Av N cv]) (by simp [results, Try.results60, go_sem, q0, q1, q2]) rfl ?_
          exact h9.fin ⟨by omega, by omega⟩
end Go.Proofs.Ythjlpgaoemdmkaa
