
/- The walk of CocycleDimension of the program. -/
import Derived.Test.YtnhgflmmfppmnaaCD4
import Derived.Test.YtnhgflmmfppmnaaCD7
namespace Go.Proofs.Ytnhgflmmfppmnaa
open Go Go.RowKit Grp Rk
set_option linter.unusedSimpArgs false
set_option linter.unusedVariables false
set_option maxRecDepth 100000
/-- The equation of a number. -/
def eqC (os : List Int) (p : Int) (n q : Nat) : List Int := eqRow os p n (q / (n * n * n)) (q / (n * n) % n) (q / n % n) (q % n)
theorem eqC_span {os : List Int} (h : OkH os) {p : Int} {n : Nat} (hp : 2 ≤ p) (hn : (n : Int) = prodL os) (hn1 : 1 ≤ n) {M : Nat} {r : Nat}
    (hr : HasRk p M (Rk.Rows ((List.range (n * n * n * n)).map (eqC os p n)).length fun i => vec (((List.range (n * n * n * n)).map (eqC os p n)).getD i [])) r) : HasRk p M (EqG os p n) r := by
  rw [rows_gen] at hr
  refine hasRk_span hr (fun g hg => ?_) (fun g hg => ?_)
  · obtain ⟨x, hx, rfl⟩ := genL_mem.1 hg
    obtain ⟨q, hq, rfl⟩ := List.mem_map.1 hx
    have hq4 := List.mem_range.1 hq
    have b1 : q / (n * n * n) < n := Nat.div_lt_of_lt_mul hq4
    have b2 : q / (n * n) % n < n := Nat.mod_lt _ (by omega)
    have b3 : q / n % n < n := Nat.mod_lt _ (by omega)
    have b4 : q % n < n := Nat.mod_lt _ (by omega)
    unfold eqC
    by_cases h0 : q / (n * n * n) = 0 ∨ q / (n * n) % n = 0 ∨ q / n % n = 0 ∨ q % n = 0
    · rw [eqRow_zero h hp hn b1 b2 b3 b4 h0]
      exact vec_rep_zero _ _ _ _
    · exact Sp.gen ⟨_, _, _, _, ⟨Nat.pos_of_ne_zero fun e => h0 (.inl e), b1⟩, ⟨Nat.pos_of_ne_zero fun e => h0 (.inr (.inl e)), b2⟩, ⟨Nat.pos_of_ne_zero fun e => h0 (.inr (.inr (.inl e))), b3⟩, ⟨Nat.pos_of_ne_zero fun e => h0 (.inr (.inr (.inr e))), b4⟩, rfl⟩
  · obtain ⟨x, y, z, t, hx, hy, hz, ht, rfl⟩ := hg
    refine Sp.gen (genL_mem.2 ⟨_, List.mem_map.2 ⟨((x * n + y) * n + z) * n + t, List.mem_range.2 ?_, rfl⟩, ?_⟩)
    · have e1 : x * n + y + 1 ≤ n * n := by
        have : (x + 1) * n ≤ n * n := Nat.mul_le_mul_right _ (by omega)
        rw [Nat.succ_mul] at this; omega
      have e2 : (x * n + y) * n + z + 1 ≤ n * n * n := by
        have := Nat.mul_le_mul_right n e1
        rw [Nat.succ_mul] at this; omega
      have := Nat.mul_le_mul_right n e2
      rw [Nat.succ_mul] at this; omega
    · have d1 : (((x * n + y) * n + z) * n + t) % n = t := by rw [Nat.mul_comm _ n, Nat.mul_add_mod, Nat.mod_eq_of_lt ht.2]
      have d2 : (((x * n + y) * n + z) * n + t) / n = (x * n + y) * n + z := by rw [Nat.mul_comm _ n, Nat.mul_add_div (by omega), Nat.div_eq_of_lt ht.2, Nat.add_zero]
      have d3 : ((x * n + y) * n + z) % n = z := by rw [Nat.mul_comm _ n, Nat.mul_add_mod, Nat.mod_eq_of_lt hz.2]
      have d4 : ((x * n + y) * n + z) / n = x * n + y := by rw [Nat.mul_comm _ n, Nat.mul_add_div (by omega), Nat.div_eq_of_lt hz.2, Nat.add_zero]
      have d5 : (x * n + y) % n = y := by rw [Nat.mul_comm _ n, Nat.mul_add_mod, Nat.mod_eq_of_lt hy.2]
      have d6 : (x * n + y) / n = x := by rw [Nat.mul_comm _ n, Nat.mul_add_div (by omega), Nat.div_eq_of_lt hy.2, Nat.add_zero]
      unfold eqC
      rw [← Nat.div_div_eq_div_mul, ← Nat.div_div_eq_div_mul, d2, d4, d6, d5, d3, d1]
set_option maxHeartbeats 8000000 in
theorem implCD_c (w : World) (v0 : Value) (os : ints_T) (H0 : ints_R w w.heap.size v0 os) (S0 : ints_Sh os) (p : Int) (wp : i64ok p) :
    Calls Try.prog 6 #[v0, .int .i64 p] w (Re w (.tuple #[.int .i64 (cdR os p), .int .i64 (spK os p)])) := by
  obtain ⟨A, nn, c, rfl, h⟩ := H0
  obtain rfl := h.len
  have hnn : os.length ≤ 1048576 := S0
  have HK := hide (spaceCode_any w A os.length c os p h hnn)
  by_cases hK : spK os p = 0
  rotate_left
  · have hE := hide (show cdR os p = 0 by unfold cdR; rw [if_neg hK])
    obtain ⟨q, hq⟩ : ∃ q, spK os p = q := ⟨_, rfl⟩
    rw [hq] at HK hK ⊢
    have t : (q != 0) = true := by simp [hK]
    rw [hE.out]
    clear hK hq hE
    go_enter Try.func6, Try.ntmps6
    go_wp2_with fail
    refine HK.out.mono ?_
    rintro e w1 ⟨rfl, d, rfl⟩
    go_wp2_with fail
    refine bodyPost_ret (v := .tuple #[.int .i64 0, .int .i64 q]) (by simp [results, Try.results6, go_sem]) rfl ?_
    exact ⟨rfl, below_drewN (Below.refl _ _) _⟩
  obtain ⟨hO, hp6, hp4⟩ := spK_0 hK
  have hpr := hp4.rng
  have hpos := prodL_pos hO.2
  obtain ⟨n, hn⟩ : ∃ n : Nat, (prodL os).toNat = n := ⟨_, rfl⟩
  have hpn : (n : Int) = prodL os := by omega
  have hH := okH_of hO hnn (by omega)
  have hE : cdR os p = ((((n - 1) * (n - 1) * (n - 1) : Nat) : Int) - (rkN p ((n - 1) * (n - 1) * (n - 1)) (EqG os p n) : Int)) := by unfold cdR; rw [if_pos hK, hn]
  have HZ := hide (fun W (hW : Below w.heap.size w W) => by
    have h9 := groupSize_any W w.heap.size A os.length c os (h.below hW) hnn
    rw [gsz_ok hO, show min (17 : Int) (prodL os) = (n : Int) by omega] at h9
    exact h9)
  have hn1 : 1 ≤ n := by omega
  have hn6 : n ≤ 6 := by omega
  rw [hK] at HK ⊢
  have HPl := hide (fun W (hW : Below w.heap.size w W) (x y : Nat) (hx : x ≤ 100) (hy : y ≤ 100) => plus_any W A os.length c os (.int .i64 p) (.slice none 0 0) x y ((h.below hW).more hW.size) hH hx hy)
  have HAl := hide (fun x y => An_lt hH hpn x y)
  have HSP := hide (fun M r hr => eqC_span hH (p := p) (n := n) hpr.1 hpn hn1 (M := M) (r := r) hr)
  have HE := hide hE
  obtain ⟨m, hm⟩ : ∃ m : Nat, n - 1 = m := ⟨_, rfl⟩
  have hm5 : m ≤ 5 := by omega
  have hnm : n = m + 1 := by omega
  have hw1 : IntKind.i64.wrap ((n : Int) - 1) = (m : Int) := (wr64 _ ⟨by omega, by omega⟩).trans (by omega)
  have hwn : IntKind.i64.wrap (n : Int) = (n : Int) := wr64 _ ⟨by omega, by omega⟩
  obtain ⟨M2, hM2⟩ : ∃ M2 : Nat, m * m = M2 := ⟨_, rfl⟩
  have hM25 : M2 ≤ 25 := by rw [← hM2]; exact Nat.mul_le_mul hm5 hm5
  obtain ⟨M3, hM3⟩ : ∃ M3 : Nat, M2 * m = M3 := ⟨_, rfl⟩
  have hM35 : M3 ≤ 125 := by rw [← hM3]; exact Nat.mul_le_mul hM25 hm5
  have hw2 : IntKind.i64.wrap ((m : Int) * (m : Int)) = (M2 : Int) := by rw [← Int.natCast_mul, hM2]; exact wr64 _ ⟨by omega, by omega⟩
  have hw3 : IntKind.i64.wrap ((M2 : Int) * (m : Int)) = (M3 : Int) := by rw [← Int.natCast_mul, hM3]; exact wr64 _ ⟨by omega, by omega⟩
  obtain ⟨N2, hN2⟩ : ∃ N2 : Nat, n * n = N2 := ⟨_, rfl⟩
  have hN25 : N2 ≤ 36 := by rw [← hN2]; exact Nat.mul_le_mul hn6 hn6
  have hN21 : 1 ≤ N2 := by rw [← hN2]; exact Nat.mul_le_mul hn1 hn1
  obtain ⟨N3, hN3⟩ : ∃ N3 : Nat, N2 * n = N3 := ⟨_, rfl⟩
  have hN35 : N3 ≤ 216 := by rw [← hN3]; exact Nat.mul_le_mul hN25 hn6
  have hN31 : 1 ≤ N3 := by rw [← hN3]; exact Nat.mul_le_mul hN21 hn1
  obtain ⟨N4, hN4⟩ : ∃ N4 : Nat, N3 * n = N4 := ⟨_, rfl⟩
  have hN45 : N4 ≤ 1296 := by rw [← hN4]; exact Nat.mul_le_mul hN35 hn6
  have hv2 : IntKind.i64.wrap ((n : Int) * (n : Int)) = (N2 : Int) := by rw [← Int.natCast_mul, hN2]; exact wr64 _ ⟨by omega, by omega⟩
  have hv3 : IntKind.i64.wrap ((N2 : Int) * (n : Int)) = (N3 : Int) := by rw [← Int.natCast_mul, hN3]; exact wr64 _ ⟨by omega, by omega⟩
  have hv4 : IntKind.i64.wrap ((N3 : Int) * (n : Int)) = (N4 : Int) := by rw [← Int.natCast_mul, hN4]; exact wr64 _ ⟨by omega, by omega⟩
  have HM := hide (show (n - 1) * (n - 1) * (n - 1) = M3 by rw [hm, hM2, hM3])
  have HMM := hide (show m * m * m = M3 by rw [hM2, hM3])
  have HN3 := hide (show n * n * n = N3 by rw [hN2, hN3])
  have HN2 := hide hN2
  have HN4 := hide (show n * n * n * n = N4 by rw [hN2, hN3, hN4])
  have HNM := hide hnm
  have HM1 := hide hm
  rw [HM.out] at HE
  clear hn hpn hE hm hM2 hM3 hp6 hpos hK hnm hN2 hN3 hN4
  go_enter Try.func6, Try.ntmps6
  go_wp2_with fail
  refine HK.out.mono ?_
  rintro e w1 ⟨rfl, d, rfl⟩
  go_wp2_with fail
  refine (HZ.out _ (below_drewN (Below.refl _ _) _)).mono ?_
  rintro e w1 ⟨rfl, d2, rfl⟩
  obtain ⟨W, hW⟩ : ∃ W, ((World.drewN w (d + d2)).alloc (.cells #[.slice none 0 0, .int .i64 0, .slice none 0 0] 37)).alloc (.cells #[.int .i64 0] 3) = W := ⟨_, rfl⟩
  have bc : Blk W w.heap.size 37 #[.slice none 0 0, .int .i64 0, .slice none 0 0] := by rw [← hW]; exact (Blk.new _ _ _).alloc _
  have bn : Blk W (w.heap.size + 1) 3 #[.int .i64 0] := by rw [← hW]; exact Blk.new' _ _ _ _ (by simp)
  have hB0 : Below w.heap.size w W := by rw [← hW]; exact ((below_drewN (Below.refl w.heap.size w) (d + d2)).alloc (Nat.le_refl _) _).alloc (by simp) _
  have y0 := bc.cell 0
  have y1 := bc.cell 1
  have y2 := bc.cell 2
  have f0 := bc.frozen 0
  have f1 := bc.frozen 1
  have f2 := bc.frozen 2
  have z0 := bn.cell 0
  have g0 := bn.frozen 0
  go_wp2_with fail
  have bcp : Blk (put3 W w.heap.size (.slice A os.length c) (.int .i64 p) (.slice none 0 0)) w.heap.size 37 #[.slice A os.length c, .int .i64 p, .slice none 0 0] := put3_blk bc
  have bnp := put3_far (x := .slice A os.length c) (y := .int .i64 p) (z := .slice none 0 0) (g := w.heap.size) bn (by omega)
  have hBp := put3_below (x := .slice A os.length c) (y := .int .i64 p) (z := .slice none 0 0) hB0 (Nat.le_refl _)
  unfold put3 at bcp bnp hBp
  obtain ⟨W2, hW2⟩ : ∃ W2, (((W.setCell ⟨w.heap.size, 0, none⟩ (.slice A os.length c)).setCell ⟨w.heap.size, 1, none⟩ (.int .i64 p)).setCell ⟨w.heap.size, 2, none⟩ (.slice none 0 0)).setCell ⟨w.heap.size + 1, 0, none⟩ (.int .i64 n) = W2 := ⟨_, rfl⟩
  have bc2 : Blk W2 w.heap.size 37 #[.slice A os.length c, .int .i64 p, .slice none 0 0] := by rw [← hW2]; exact bcp.far (by simp) _
  have bn2 : Blk W2 (w.heap.size + 1) 3 #[.int .i64 n] := by rw [← hW2]; exact bnp.store 0 _
  have hB2 : Below w.heap.size w W2 := by rw [← hW2]; exact hBp.setCell (by simp) _
  rw [hW2]
  clear hW2 bcp bnp hBp y0 y1 y2 f0 f1 f2 z0 g0 hB0 bc bn hW
  have N0 := hide (bn2.cell 0)
  have ln2 := bn2.lt
  refine wp_region_be [1, 2, 3, 4, 5, 6, 7, 8, 0, 9, 10] 10 W2.heap.size W2 (by kernel_rfl) (by kernel_rfl) (by kernel_rfl) (fun _ _ _ _ _ h => h) (Below.refl _ _) (fun wd hBe => ?_)
  repeat (first | (apply ord_tk rfl (by rfl) (by rfl) (by rfl); (focus (intro wx hSw; have r0 := (hSw.cell (p := ⟨w.heap.size + 1, 0, none⟩) ln2).trans N0.out; go_simp; (try with_reducible rfl))); (try simp only [Act.put, List.setIfInBounds_toArray, List.set_cons_zero, List.set_cons_succ])) | (apply ord_skip rfl (by rfl) (by rfl) (fun _ => hBe); (try simp only [Act.put, List.setIfInBounds_toArray, List.set_cons_zero, List.set_cons_succ])))
  refine ord_do rfl (by rfl) (by rfl) (fun K hK => ?_)
  go_simp
  have hBa := hBe.alloc hBe.size (.cells #[] 24)
  have hG0 : Grow E1 24 wd.heap.size (wd.alloc (.cells #[] 24)) (.slice (some ⟨wd.heap.size, 0, none⟩) 0 0) ([] : List (List Int)) := Grow.start rfl (Nat.le_refl _)
  have hBd : Below wd.heap.size wd (wd.alloc (.cells #[] 24)) := (Below.refl _ _).alloc (Nat.le_refl _) _
  have bcd := bc2.all hBe
  have bnd := bn2.all hBe
  have hBwd := hB2.trans (hBe.mono hB2.size)
  refine hK.out _ _ (fun _ => hBa) ?_
  (try simp only [Act.put, List.setIfInBounds_toArray, List.set_cons_zero, List.set_cons_succ])
  clear hK K
  replace hBe := hBa
  repeat (first | (apply ord_tk rfl (by rfl) (by rfl) (by rfl); (focus (intro wx hSw; skip; go_simp; (try with_reducible rfl))); (try simp only [Act.put, List.setIfInBounds_toArray, List.set_cons_zero, List.set_cons_succ])) | (apply ord_skip rfl (by rfl) (by rfl) (fun _ => hBe); (try simp only [Act.put, List.setIfInBounds_toArray, List.set_cons_zero, List.set_cons_succ])))
  refine ord_do rfl (by rfl) (by rfl) (fun K hK => ?_)
  go_simp
  refine hK.out _ _ (fun h => absurd h (by omega)) ?_
  (try simp only [Act.put, List.setIfInBounds_toArray, List.set_cons_zero, List.set_cons_succ])
  clear hK K
  refine ord_nil ?_
  obtain ⟨w3, hw3⟩ : ∃ w3, wd.alloc (.cells #[] 24) = w3 := ⟨_, rfl⟩
  rw [hw3] at hG0 hBd ⊢
  obtain ⟨B0, hB0⟩ : ∃ B0, wd.heap.size = B0 := ⟨_, rfl⟩
  (try rw [hB0])
  rw [hB0] at hG0
  have n0 := ((bnd.all hBd).cell 0)
  clear hw3 hBe hBa bc2 bn2 hB2 N0 ln2
  go_wp2_with fail
  clear n0
  go_loopw [9, 45] (fun o i wr => ∃ (q : Nat) (vE : Value), q ≤ N4 ∧ vE = o ∧ i = .int .i64 q ∧ Grow E1 24 B0 wr vE ((List.range q).map (eqC os p n)) ∧ Below wd.heap.size wd wr) (fun _ i _ => N4 - (intOf i).toNat)
  case atStart => exact ⟨0, _, by omega, rfl, rfl, hG0, hBd⟩
  case round =>
    clear hG0 hBd
    obtain ⟨q, vE, hq, rfl, rfl, hG, hB⟩ := hrel
    by_cases hlq : q < N4
    · obtain ⟨X, hX⟩ : ∃ X, q / N3 = X := ⟨_, rfl⟩
      obtain ⟨Y0, hY0⟩ : ∃ X, q / N2 = X := ⟨_, rfl⟩
      obtain ⟨Y, hY⟩ : ∃ X, Y0 % n = X := ⟨_, rfl⟩
      obtain ⟨Z0, hZ0⟩ : ∃ X, q / n = X := ⟨_, rfl⟩
      obtain ⟨Z, hZ⟩ : ∃ X, Z0 % n = X := ⟨_, rfl⟩
      obtain ⟨T, hT⟩ : ∃ X, q % n = X := ⟨_, rfl⟩
      have lX : X < n := by rw [← hX]; exact Nat.div_lt_of_lt_mul (by rw [← HN3.out, HN4.out]; exact hlq)
      have lY : Y < n := by rw [← hY]; exact Nat.mod_lt _ (by omega)
      have lZ : Z < n := by rw [← hZ]; exact Nat.mod_lt _ (by omega)
      have lT : T < n := by rw [← hT]; exact Nat.mod_lt _ (by omega)
      have lY0 : Y0 ≤ q := by rw [← hY0]; exact Nat.div_le_self _ _
      have lZ0 : Z0 ≤ q := by rw [← hZ0]; exact Nat.div_le_self _ _
      have k1 : (q : Int).tdiv (N3 : Int) = (X : Int) := by rw [Int.tdiv_eq_ediv_of_nonneg (by omega), ← hX]; rfl
      have k2 : (q : Int).tdiv (N2 : Int) = (Y0 : Int) := by rw [Int.tdiv_eq_ediv_of_nonneg (by omega), ← hY0]; rfl
      have k3 : (Y0 : Int).tmod (n : Int) = (Y : Int) := by rw [Int.tmod_eq_emod_of_nonneg (by omega), ← hY]; rfl
      have k4 : (q : Int).tdiv (n : Int) = (Z0 : Int) := by rw [Int.tdiv_eq_ediv_of_nonneg (by omega), ← hZ0]; rfl
      have k5 : (Z0 : Int).tmod (n : Int) = (Z : Int) := by rw [Int.tmod_eq_emod_of_nonneg (by omega), ← hZ]; rfl
      have k6 : (q : Int).tmod (n : Int) = (T : Int) := by rw [Int.tmod_eq_emod_of_nonneg (by omega), ← hT]; rfl
      have u1 : IntKind.i64.wrap (X : Int) = X := wr64 _ ⟨by omega, by omega⟩
      have u2 : IntKind.i64.wrap (Y0 : Int) = Y0 := wr64 _ ⟨by omega, by omega⟩
      have u3 : IntKind.i64.wrap (Z0 : Int) = Z0 := wr64 _ ⟨by omega, by omega⟩
      have v1 : ¬ N3 = 0 := by omega
      have v2 : ¬ N2 = 0 := by omega
      have v3 : ¬ n = 0 := by omega
      have HEQ := hide (show eqC os p n q = eqRow os p n X Y Z T by unfold eqC; rw [HN3.out, HN2.out, hX, hY0, hY, hZ0, hZ, hT])
      have hsz := hB.size
      have bcw := bcd.all hB
      have bnw := bnd.all hB
      have N0 := hide (bnw.cell 0)
      have ln2 := bnw.lt
      clear hX hY0 hY hZ0 hZ hT
      obtain ⟨w4, rfl⟩ : ∃ w4, w4 = wr := ⟨_, rfl⟩
      go_wp2_with fail
      refine wp_region_be [0, 1, 2, 3, 4, 5, 6, 7, 8, 9, 10, 11, 12, 13, 14, 15, 16, 17, 18, 19, 20, 21, 22, 23, 24, 25] 25 w4.heap.size w4 (by kernel_rfl) (by kernel_rfl) (by kernel_rfl) (fun _ _ _ _ _ h => h) (Below.refl _ _) (fun wd hBe => ?_)
      repeat (first | (apply ord_tk rfl (by rfl) (by rfl) (by rfl); (focus (intro wx hSw; have r0 := (hSw.cell (p := ⟨w.heap.size + 1, 0, none⟩) ln2).trans N0.out; go_simp; (try with_reducible rfl))); (try simp only [Act.put, List.setIfInBounds_toArray, List.set_cons_zero, List.set_cons_succ])) | (apply ord_skip rfl (by rfl) (by rfl) (fun _ => hBe); (try simp only [Act.put, List.setIfInBounds_toArray, List.set_cons_zero, List.set_cons_succ])))
      refine ord_do rfl (by rfl) (by rfl) (fun K hK => ?_)
      go_simp
      refine hK.out _ _ (fun h => absurd h (by omega)) ?_
      (try simp only [Act.put, List.setIfInBounds_toArray, List.set_cons_zero, List.set_cons_succ])
      clear hK K
      refine ord_nil ?_
      clear k1 k2 k3 k4 k5 k6 u1 u2 u3 v1 v2 v3
      have hmk := fun W => run_make (P := Try.prog) (w := W) 24 2 (info_parts int_info).choose (.int .i64 0) Try.underlying24 (info_parts int_info).choose_spec.1 (info_parts int_info).choose_spec.2.1 .i64 .i64 M3 M3 (by omega) (by omega) (by rw [(info_parts int_info).choose_spec.2.2.2]; omega) (by omega)
      simp only [(info_parts int_info).choose_spec.2.2.1, Int.toNat_natCast, Nat.mul_one] at hmk
      have hbS := hBe.size
      have lq : (List.range q).length = q := List.length_range
      obtain ⟨g, hg⟩ : ∃ g, wd.heap.size = g := ⟨_, rfl⟩
      obtain ⟨w5, hw5⟩ : ∃ w5, (wd.alloc (.cells (madeCells #[.int .i64 0] M3) 2)).alloc (.cells #[.slice (some ⟨g, 0, none⟩) M3 M3] 24) = w5 := ⟨_, rfl⟩
      have hR1 := E1.zeros wd M3 g hg (by unfold maxLen; omega)
      have hro : Ow w5 0 (.slice (some ⟨g, 0, none⟩) M3 M3) (List.replicate M3 0) := by rw [← hw5]; exact hR1.own.alloc _
      have brw : Blk w5 (g + 1) 24 #[.slice (some ⟨g, 0, none⟩) M3 M3] := by rw [← hw5]; exact Blk.new' _ _ _ _ (by simp; omega)
      have hb5 : Below w4.heap.size w4 w5 := by rw [← hw5]; exact ((hBe.alloc hBe.size _).alloc (by simp; omega) _)
      have hgl : w4.heap.size ≤ g := by rw [← hg]; exact hbS
      have hs5 : w5.heap.size = g + 2 := by rw [← hw5]; simp; omega
      clear hR1
      go_wp2_with fail
      clear hw5 hg hmk
      have hin0 : In01 p M3 (List.replicate M3 0) := rep_in hpr.1
      have hnm := HNM.out
      have bc5 := bcw.all hb5
      have bn5 := bnw.all hb5
      have hBw4 := hBwd.trans (hB.mono hBwd.size)
      replace hs5 : g + 2 ≤ w5.heap.size := by omega
      have hw2l := bcw.lt
      have lXY := HAl.out X Y
      have lYZ := HAl.out Y Z
      have lZT := HAl.out Z T
      clear hnm
      obtain ⟨xy, hxy⟩ : ∃ i, An os X Y = i := ⟨_, rfl⟩
      obtain ⟨yz, hyz⟩ : ∃ i, An os Y Z = i := ⟨_, rfl⟩
      obtain ⟨zt, hzt⟩ : ∃ i, An os Z T = i := ⟨_, rfl⟩
      rw [hxy] at lXY
      rw [hyz] at lYZ
      rw [hzt] at lZT
      have HXY := hide hxy
      have HYZ := hide hyz
      have HZT := hide hzt
      clear hxy hyz hzt
      refine (count_any w5 Y Z T n m M3 g (w.heap.size + 1) w.heap.size (g + 1) 1 p (.slice A os.length c) (.slice none 0 0) (List.replicate M3 0) hp4 HNM.out hm5 HMM.out (by have := HNM.out; omega) (by have := HNM.out; omega) (by have := HNM.out; omega) (by omega) bn5 bc5 brw hro hin0).mono ?_
      rintro e w6 ⟨rfl, hro', hwr⟩
      replace hro := hro'
      have hbb := hwr.below (B := w4.heap.size) (fun b hb => by rw [hb]; omega) hb5.size
      replace bn5 := hwr.blk bn5 (by omega)
      replace bc5 := hwr.blk bc5 (by omega)
      replace brw := hwr.blk brw (by omega)
      replace hb5 := hb5.trans hbb
      replace hs5 := Nat.le_trans hs5 hwr.size
      clear hro' hwr hbb
      have hin1 := bump_in (m := m) (a := Y) (b := Z) (c := T) (v := 1) hpr.1 hin0
      obtain ⟨r1, hr1⟩ : ∃ r, bump p m (List.replicate M3 0) Y Z T 1 = r := ⟨_, rfl⟩
      rw [hr1] at hro hin1
      have c0 := bc5.cell 0
      have c1 := bc5.cell 1
      have c2 := bc5.cell 2
      go_wp2_with fail
      clear c0 c1 c2
      have hpl := HPl.out w6 (hBw4.trans (hb5.mono hBw4.size)) X Y (by omega) (by omega)
      rw [HXY.out] at hpl
      refine hpl.mono ?_
      rintro e w7 ⟨rfl, hbp⟩
      replace bn5 := bn5.all hbp
      replace bc5 := bc5.all hbp
      replace brw := brw.all hbp
      replace hro := hro.below hbp
      replace hb5 := hb5.trans (hbp.mono hb5.size)
      replace hs5 := Nat.le_trans hs5 hbp.size
      clear hbp hpl
      go_wp2_with fail
      refine (count_any w7 xy Z T n m M3 g (w.heap.size + 1) w.heap.size (g + 1) (-1) p (.slice A os.length c) (.slice none 0 0) r1 hp4 HNM.out hm5 HMM.out (by have := HNM.out; omega) (by have := HNM.out; omega) (by have := HNM.out; omega) (by omega) bn5 bc5 brw hro hin1).mono ?_
      rintro e w8 ⟨rfl, hro', hwr⟩
      replace hro := hro'
      have hbb := hwr.below (B := w4.heap.size) (fun b hb => by rw [hb]; omega) hb5.size
      replace bn5 := hwr.blk bn5 (by omega)
      replace bc5 := hwr.blk bc5 (by omega)
      replace brw := hwr.blk brw (by omega)
      replace hb5 := hb5.trans hbb
      replace hs5 := Nat.le_trans hs5 hwr.size
      clear hro' hwr hbb
      have hin2 := bump_in (m := m) (a := xy) (b := Z) (c := T) (v := -1) hpr.1 hin1
      obtain ⟨r2, hr2⟩ : ∃ r, bump p m r1 xy Z T (-1) = r := ⟨_, rfl⟩
      rw [hr2] at hro hin2
      have c0 := bc5.cell 0
      have c1 := bc5.cell 1
      have c2 := bc5.cell 2
      go_wp2_with fail
      clear c0 c1 c2
      have hpl := HPl.out w8 (hBw4.trans (hb5.mono hBw4.size)) Y Z (by omega) (by omega)
      rw [HYZ.out] at hpl
      refine hpl.mono ?_
      rintro e w9 ⟨rfl, hbp⟩
      replace bn5 := bn5.all hbp
      replace bc5 := bc5.all hbp
      replace brw := brw.all hbp
      replace hro := hro.below hbp
      replace hb5 := hb5.trans (hbp.mono hb5.size)
      replace hs5 := Nat.le_trans hs5 hbp.size
      clear hbp hpl
      go_wp2_with fail
      refine (count_any w9 X yz T n m M3 g (w.heap.size + 1) w.heap.size (g + 1) 1 p (.slice A os.length c) (.slice none 0 0) r2 hp4 HNM.out hm5 HMM.out (by have := HNM.out; omega) (by have := HNM.out; omega) (by have := HNM.out; omega) (by omega) bn5 bc5 brw hro hin2).mono ?_
      rintro e w10 ⟨rfl, hro', hwr⟩
      replace hro := hro'
      have hbb := hwr.below (B := w4.heap.size) (fun b hb => by rw [hb]; omega) hb5.size
      replace bn5 := hwr.blk bn5 (by omega)
      replace bc5 := hwr.blk bc5 (by omega)
      replace brw := hwr.blk brw (by omega)
      replace hb5 := hb5.trans hbb
      replace hs5 := Nat.le_trans hs5 hwr.size
      clear hro' hwr hbb
      have hin3 := bump_in (m := m) (a := X) (b := yz) (c := T) (v := 1) hpr.1 hin2
      obtain ⟨r3, hr3⟩ : ∃ r, bump p m r2 X yz T 1 = r := ⟨_, rfl⟩
      rw [hr3] at hro hin3
      have c0 := bc5.cell 0
      have c1 := bc5.cell 1
      have c2 := bc5.cell 2
      go_wp2_with fail
      clear c0 c1 c2
      have hpl := HPl.out w10 (hBw4.trans (hb5.mono hBw4.size)) Z T (by omega) (by omega)
      rw [HZT.out] at hpl
      refine hpl.mono ?_
      rintro e w11 ⟨rfl, hbp⟩
      replace bn5 := bn5.all hbp
      replace bc5 := bc5.all hbp
      replace brw := brw.all hbp
      replace hro := hro.below hbp
      replace hb5 := hb5.trans (hbp.mono hb5.size)
      replace hs5 := Nat.le_trans hs5 hbp.size
      clear hbp hpl
      go_wp2_with fail
      refine (count_any w11 X Y zt n m M3 g (w.heap.size + 1) w.heap.size (g + 1) (-1) p (.slice A os.length c) (.slice none 0 0) r3 hp4 HNM.out hm5 HMM.out (by have := HNM.out; omega) (by have := HNM.out; omega) (by have := HNM.out; omega) (by omega) bn5 bc5 brw hro hin3).mono ?_
      rintro e w12 ⟨rfl, hro', hwr⟩
      replace hro := hro'
      have hbb := hwr.below (B := w4.heap.size) (fun b hb => by rw [hb]; omega) hb5.size
      replace bn5 := hwr.blk bn5 (by omega)
      replace bc5 := hwr.blk bc5 (by omega)
      replace brw := hwr.blk brw (by omega)
      replace hb5 := hb5.trans hbb
      replace hs5 := Nat.le_trans hs5 hwr.size
      clear hro' hwr hbb
      have hin4 := bump_in (m := m) (a := X) (b := Y) (c := zt) (v := -1) hpr.1 hin3
      obtain ⟨r4, hr4⟩ : ∃ r, bump p m r3 X Y zt (-1) = r := ⟨_, rfl⟩
      rw [hr4] at hro hin4
      go_wp2_with fail
      refine (count_any w12 X Y Z n m M3 g (w.heap.size + 1) w.heap.size (g + 1) 1 p (.slice A os.length c) (.slice none 0 0) r4 hp4 HNM.out hm5 HMM.out (by have := HNM.out; omega) (by have := HNM.out; omega) (by have := HNM.out; omega) (by omega) bn5 bc5 brw hro hin4).mono ?_
      rintro e w13 ⟨rfl, hro', hwr⟩
      replace hro := hro'
      have hbb := hwr.below (B := w4.heap.size) (fun b hb => by rw [hb]; omega) hb5.size
      replace bn5 := hwr.blk bn5 (by omega)
      replace bc5 := hwr.blk bc5 (by omega)
      replace brw := hwr.blk brw (by omega)
      replace hb5 := hb5.trans hbb
      replace hs5 := Nat.le_trans hs5 hwr.size
      clear hro' hwr hbb
      have hin5 := bump_in (m := m) (a := X) (b := Y) (c := Z) (v := 1) hpr.1 hin4
      obtain ⟨r5, hr5⟩ : ∃ r, bump p m r4 X Y Z 1 = r := ⟨_, rfl⟩
      rw [hr5] at hro hin5
      have hr5q : r5 = eqC os p n q := by
        rw [HEQ.out]
        unfold eqRow
        rw [HM1.out, HMM.out, HXY.out, HYZ.out, HZT.out, hr1, hr2, hr3, hr4, hr5]
      subst hr5q
      have hE5 : E1 w13 (.slice (some ⟨g, 0, none⟩) M3 M3) (eqC os p n q) (fun b => b = g) := ⟨hro, hin5.ok (by omega), fun b hb => by simp only [Value.ownBlock, Option.some.injEq] at hb; exact hb.symm, fun b hb => by rw [hb]; omega⟩
      have hbw : Below w4.heap.size w4 (w13.alloc (.cells #[.slice (some ⟨g, 0, none⟩) M3 M3] 24)) := hb5.alloc hb5.size _
      have hE6 := E1.below hE5 ((Below.refl _ _).alloc (Nat.le_refl _) (.cells #[.slice (some ⟨g, 0, none⟩) M3 M3] 24))
      have c0 := brw.cell 0
      have hmlen : ((List.range q).map (eqC os p n)).length = q := by simp
      clear hr1 hr2 hr3 hr4 hr5 hin0 hin1 hin2 hin3 hin4 hro lq
      go_wp2_with (at_builtin; refine list_pushG kp1 39 24 _ 24 Try.underlying39 rows_info (by omega) rfl _ rfl _ _ rfl B0 vE _ rfl w4 hG hbw (.slice (some ⟨g, 0, none⟩) M3 M3) _ _ hE6 (fun b hb => by rw [hb]; exact ⟨by omega, by simp; omega⟩) rfl w13.heap.size _ rfl (Blk.new _ _ _) (by rw [hmlen]; omega) (by omega) (by simp) ?_; intro g7 cap7 w7' hG7 hB7 hW7 hg7 hg8)
      have HG7 := hide (show Grow E1 24 B0 w7' (.slice (some ⟨g7, 0, none⟩) (q + 1) cap7) ((List.range (q + 1)).map (eqC os p n)) by
        rw [hmlen] at hG7
        rw [List.range_succ, List.map_append]
        exact hG7)
      have hbx := hB.trans (hbw.mono hB.size)
      rw [hB0] at hbx
      have hbx2 := hbx.trans hB7
      rw [← hB0] at hbx2
      have HBX := hide hbx2
      clear hG7 hB7 hW7 hE6 hE5 hbw hbx hbx2 c0 hmlen hG hB
      go_roundw
      case rel => exact ⟨q + 1, _, by omega, rfl, by go_num, HG7.out, HBX.out⟩
      case measure => simp [intOf] <;> omega
    · obtain rfl : N4 = q := by omega
      obtain ⟨AE, cE, rfl, sE⟩ := E2.sl2 (show E2 wr vE _ _ from hG.toL)
      rw [List.length_map, List.length_range] at *
      have hin : ∀ r ∈ (List.range N4).map (eqC os p n), In01 p M3 r := fun r hr => by
        obtain ⟨q, _, rfl⟩ := List.mem_map.1 hr
        rw [← HM.out]
        exact eqRow_in hpr.1
      go_wp2_with fail
      refine (rankModulo_any wr p AE N4 cE _ M3 sE (by omega) (by omega) hp4 hin).mono ?_
      rintro e w1 ⟨r, rfl, hrk, hb1⟩
      have hrk2 := HSP.out M3 r (by rw [HN4.out]; rw [List.length_map, List.length_range] at hrk; exact hrk)
      have hrl := hasRk_le hrk2
      have hrv := rkN_eq hp4.isP hrk2
      have hw4 : IntKind.i64.wrap ((M3 : Int) - (r : Int)) = (M3 : Int) - r := wr64 _ ⟨by omega, by omega⟩
      have HRV := hide hrv
      clear hrk hrk2 hrv
      go_wp2_with fail
      refine bodyPost_ret (v := .tuple #[.int .i64 ((M3 : Int) - r), .int .i64 0]) (by simp [results, Try.results6, go_sem]) rfl ?_
      exact ⟨by rw [HE.out, HRV.out], (hBwd.trans (hB.mono hBwd.size)).trans (hb1.mono (hBwd.trans (hB.mono hBwd.size)).size)⟩
end Go.Proofs.Ytnhgflmmfppmnaa
