
/- The walks of MixedCocycle of both sides, and its law. -/
import Derived.Test.YthjlpgaoemdmkaaCB6
namespace Go.Proofs.Ythjlpgaoemdmkaa
open Go Go.RowKit Grp
set_option linter.unusedSimpArgs false
set_option linter.unusedVariables false
set_option maxRecDepth 100000
theorem gcd_step1 (p q : Nat) : Nat.gcd q (p % q) = Nat.gcd p q := by rw [Nat.gcd_comm q, ← Nat.gcd_rec, Nat.gcd_comm]
set_option maxHeartbeats 1000000 in
theorem gcd_any (w : World) (a b : Nat) (ha : a ≤ 1000000000) (hb : b ≤ 1000000000) : Calls Try.prog 61 #[.int .i64 a, .int .i64 b] w (Qt w (.int .i64 (Nat.gcd a b : Nat))) := by
  go_enter Try.func61, Try.ntmps61
  go_wp2_with fail
  go_loopw [0, 1] (fun x y wr => ∃ p q : Nat, x = .int .i64 p ∧ y = .int .i64 q ∧ p ≤ 1000000000 ∧ q ≤ 1000000000 ∧ Nat.gcd p q = Nat.gcd a b ∧ Dr w wr) (fun _ y _ => (intOf y).toNat)
  case atStart => exact ⟨a, b, rfl, rfl, ha, hb, rfl, Dr.refl _⟩
  case round =>
    obtain ⟨p, q, rfl, rfl, hp, hq, hg, hDr⟩ := hrel
    have hG := hide hg
    clear hg
    by_cases hz : q = 0
    · have hzb : ((q : Int) != 0) = false := by simp [hz]
      have hE := hide (show Nat.gcd a b = p by rw [← hG.out, hz, Nat.gcd_zero_right])
      have hZ := hide hz
      clear hz
      have t1 : IntKind.i64.wrap (-(p : Int)) = -(p : Int) := wrap_in (by omega) (by omega)
      have t2 : ¬ (p : Int) < -(p : Int) := by omega
      have t3 : -(p : Int) ≤ (p : Int) := by omega
      go_wp2_with fail
      go_ret
      obtain ⟨m, rfl⟩ := hDr
      exact Qt.mk' m rfl (int_eq (by rw [hE.out]; try omega))
    · have hzb : ((q : Int) != 0) = true := by rw [bne_iff_ne]; omega
      have hS := hide (gcd_step1 p q)
      have hlt : p % q < q := Nat.mod_lt _ (by omega)
      have t0 : ¬ (q : Int) = 0 := by omega
      obtain ⟨r, hr⟩ : ∃ r, p % q = r := ⟨_, rfl⟩
      have t1 : (p : Int).tmod q = r := by rw [Int.tmod_eq_emod_of_nonneg (by omega), ← hr]; rfl
      have t2 : (p : Int) % q = r := by rw [← hr]; rfl
      have hS2 := hide (show Nat.gcd q r = Nat.gcd a b by rw [← hr, hS.out, hG.out])
      rw [hr] at hlt
      clear hr
      go_wp2_with fail
      refine wp_region_dr [0, 1, 2, 3, 4, 5] 5 w (by kernel_rfl) (by kernel_rfl) (by kernel_rfl) (fun _ _ _ _ _ h => h) hDr (fun wd hDr => ?_)
      repeat (first | (apply ord_tk rfl (by rfl) (by rfl) (by rfl); (focus (rintro w ⟨dm, rfl⟩; go_simp; (try with_reducible rfl))); (try simp only [Act.put, List.setIfInBounds_toArray, List.set_cons_zero, List.set_cons_succ])) | (apply ord_skip rfl (by rfl) (by rfl) (fun _ => hDr); (try simp only [Act.put, List.setIfInBounds_toArray, List.set_cons_zero, List.set_cons_succ])))
      refine ord_do rfl (by rfl) (by rfl) (fun K hK => ?_)
      go_simp
      refine hK.out _ _ (fun h => absurd h (by omega)) ?_
      (try simp only [Act.put, List.setIfInBounds_toArray, List.set_cons_zero, List.set_cons_succ])
      clear hK K
      refine ord_nil ?_
      go_wp2_with fail
      go_roundw
      case rel => exact ⟨q, r, rfl, rfl, by omega, by omega, hS2.out, hDr⟩
      case measure => simp [intOf] <;> omega

/-- What MixedCocycle returns. -/
def mixB (n m k : Int) : Bool := inB n 1 8 && inB m 1 8 && inB k 0 7
def mixC (n m k : Int) : cocycle_T := if mixB n m k = true then if n * m ≤ 8 then ([n, m], ((Nat.gcd n.toNat m.toNat : Nat) : Int), cub (n.toNat * m.toNat) (mix n.toNat m.toNat k)) else ([], 0, []) else ([], 0, [])
def mixK (n m k : Int) : Int := if mixB n m k = true then if n * m ≤ 8 then 0 else 3 else 2
theorem mix_1 {n m k : Int} (h : mixB n m k = false) : mixC n m k = ([], 0, []) ∧ mixK n m k = 2 := by unfold mixC mixK; rw [h]; exact ⟨rfl, rfl⟩
theorem mix_2 {n m k : Int} (h : mixB n m k = true) (h8 : ¬ n * m ≤ 8) : mixC n m k = ([], 0, []) ∧ mixK n m k = 3 := by unfold mixC mixK; rw [if_pos h, if_pos h, if_neg h8, if_neg h8]; exact ⟨rfl, rfl⟩
theorem mix_3 {n m : Nat} {k : Int} (h : mixB n m k = true) (h8 : (n : Int) * (m : Int) ≤ 8) : mixC n m k = (([(n : Int), (m : Int)], ((Nat.gcd n m : Nat) : Int), cub (n * m) (mix n m k)) : cocycle_T) ∧ mixK n m k = 0 := by unfold mixC mixK; rw [if_pos h, if_pos h, if_pos h8, if_pos h8]; exact ⟨rfl, rfl⟩
theorem mixC_tot (n m k : Int) : cocycle_tot (mixC n m k) ≤ 1048576 := by
  unfold mixC
  split
  · rename_i h
    split
    · rename_i h8
      unfold mixB at h
      simp only [Bool.and_eq_true, inB, decide_eq_true_eq] at h
      obtain ⟨a, rfl⟩ : ∃ a : Nat, n = a := ⟨n.toNat, by omega⟩
      obtain ⟨b, rfl⟩ : ∃ b : Nat, m = b := ⟨m.toNat, by omega⟩
      simp only [Int.toNat_natCast]
      have h9 : a * b ≤ 8 := by
        have : ((a * b : Nat) : Int) ≤ 8 := by push_cast; exact h8
        omega
      have := tot3_cub (a * b) h9 (mix a b k)
      unfold cocycle_tot
      simp only [List.length_cons, List.length_nil]
      omega
    · decide
  · decide
set_option maxHeartbeats 8000000 in
theorem specMix_c (w : World) (n : Int) (wn : i64ok n) (m : Int) (wm : i64ok m) (k : Int) (wk : i64ok k) : Calls Try.prog 20 #[.int .i64 n, .int .i64 m, .int .i64 k] w (MkEC cocycle_E w (mixC n m k) (mixK n m k)) := by
  have hb0 : Below w.heap.size w (w.alloc (.cells #[.slice none 0 0, .int .i64 0, .slice none 0 0] 25)) := (Below.refl _ _).alloc (Nat.le_refl _) _
  have br0 : Blk (w.alloc (.cells #[.slice none 0 0, .int .i64 0, .slice none 0 0] 25)) w.heap.size 25 #[.slice none 0 0, .int .i64 0, .slice none 0 0] := Blk.new _ _ _
  by_cases h1 : 1 ≤ n ∧ n ≤ 8
  rotate_left
  · have hi1 := inB_f h1
    have hE := hide (mix_1 (n := n) (m := m) (k := k) (by unfold mixB; rw [hi1]; rfl))
    clear h1
    go_enter Try.func20, Try.ntmps20
    go_wp2_with fail
    refine (l01In_v false n 1 8 _ hi1).mono ?_
    rintro e w1 ⟨rfl, d0, rfl⟩
    have br := (br0.drewN d0)
    have hbw := (below_drewN hb0 d0)
    obtain ⟨w1, hw1⟩ : ∃ w1, (w.alloc (.cells #[.slice none 0 0, .int .i64 0, .slice none 0 0] 25)).drewN d0 = w1 := ⟨_, rfl⟩
    rw [hw1] at br hbw ⊢
    clear hw1 br0 hb0
    have g0 := br.frozen 0
    have g1 := br.frozen 1
    have g2 := br.frozen 2
    have y0 := br.cell 0
    have y1 := br.cell 1
    have y2 := br.cell 2
    have hb3 := put3_blk (x := .slice none 0 0) (y := .int .i64 0) (z := .slice none 0 0) br
    have q0 := hb3.cell 0
    have q1 := hb3.cell 1
    have q2 := hb3.cell 2
    unfold put3 at q0 q1 q2
    go_wp2_with fail
    refine bodyPost_ret (v := .tuple #[.agg #[.slice none 0 0, .int .i64 0, .slice none 0 0], .int .i64 2]) (by simp [results, Try.results20, go_sem, q0, q1, q2]) rfl ?_
    rw [hE.out.1, hE.out.2]
    exact ⟨_, rfl, cocycle_zero _ _ (fun b hb => hb.2), put3_below hbw (Nat.le_refl _)⟩
  have hi1 := inB_t h1.1 h1.2
  by_cases h2 : 1 ≤ m ∧ m ≤ 8
  rotate_left
  · have hi2 := inB_f h2
    have hE := hide (mix_1 (n := n) (m := m) (k := k) (by unfold mixB; rw [hi1, hi2]; rfl))
    clear h2
    go_enter Try.func20, Try.ntmps20
    go_wp2_with fail
    refine (l01In_v true n 1 8 _ hi1).mono ?_
    rintro e w1 ⟨rfl, d0, rfl⟩
    go_wp2_with fail
    refine (l01In_v false m 1 8 _ hi2).mono ?_
    rintro e w1 ⟨rfl, d1, rfl⟩
    have br := ((br0.drewN d0).drewN d1)
    have hbw := (below_drewN (below_drewN hb0 d0) d1)
    obtain ⟨w1, hw1⟩ : ∃ w1, ((w.alloc (.cells #[.slice none 0 0, .int .i64 0, .slice none 0 0] 25)).drewN d0).drewN d1 = w1 := ⟨_, rfl⟩
    rw [hw1] at br hbw ⊢
    clear hw1 br0 hb0
    have g0 := br.frozen 0
    have g1 := br.frozen 1
    have g2 := br.frozen 2
    have y0 := br.cell 0
    have y1 := br.cell 1
    have y2 := br.cell 2
    have hb3 := put3_blk (x := .slice none 0 0) (y := .int .i64 0) (z := .slice none 0 0) br
    have q0 := hb3.cell 0
    have q1 := hb3.cell 1
    have q2 := hb3.cell 2
    unfold put3 at q0 q1 q2
    go_wp2_with fail
    refine bodyPost_ret (v := .tuple #[.agg #[.slice none 0 0, .int .i64 0, .slice none 0 0], .int .i64 2]) (by simp [results, Try.results20, go_sem, q0, q1, q2]) rfl ?_
    rw [hE.out.1, hE.out.2]
    exact ⟨_, rfl, cocycle_zero _ _ (fun b hb => hb.2), put3_below hbw (Nat.le_refl _)⟩
  have hi2 := inB_t h2.1 h2.2
  by_cases h3 : 0 ≤ k ∧ k ≤ 7
  rotate_left
  · have hi3 := inB_f h3
    have hE := hide (mix_1 (n := n) (m := m) (k := k) (by unfold mixB; rw [hi1, hi2, hi3]; rfl))
    clear h3
    go_enter Try.func20, Try.ntmps20
    go_wp2_with fail
    refine (l01In_v true n 1 8 _ hi1).mono ?_
    rintro e w1 ⟨rfl, d0, rfl⟩
    go_wp2_with fail
    refine (l01In_v true m 1 8 _ hi2).mono ?_
    rintro e w1 ⟨rfl, d1, rfl⟩
    go_wp2_with fail
    refine (l01In_v false k 0 7 _ hi3).mono ?_
    rintro e w1 ⟨rfl, d2, rfl⟩
    have br := ((br0.drewN (d0 + d1)).drewN d2)
    have hbw := (below_drewN (below_drewN hb0 (d0 + d1)) d2)
    obtain ⟨w1, hw1⟩ : ∃ w1, ((w.alloc (.cells #[.slice none 0 0, .int .i64 0, .slice none 0 0] 25)).drewN (d0 + d1)).drewN d2 = w1 := ⟨_, rfl⟩
    rw [hw1] at br hbw ⊢
    clear hw1 br0 hb0
    have g0 := br.frozen 0
    have g1 := br.frozen 1
    have g2 := br.frozen 2
    have y0 := br.cell 0
    have y1 := br.cell 1
    have y2 := br.cell 2
    have hb3 := put3_blk (x := .slice none 0 0) (y := .int .i64 0) (z := .slice none 0 0) br
    have q0 := hb3.cell 0
    have q1 := hb3.cell 1
    have q2 := hb3.cell 2
    unfold put3 at q0 q1 q2
    go_wp2_with fail
    refine bodyPost_ret (v := .tuple #[.agg #[.slice none 0 0, .int .i64 0, .slice none 0 0], .int .i64 2]) (by simp [results, Try.results20, go_sem, q0, q1, q2]) rfl ?_
    rw [hE.out.1, hE.out.2]
    exact ⟨_, rfl, cocycle_zero _ _ (fun b hb => hb.2), put3_below hbw (Nat.le_refl _)⟩
  have hi3 := inB_t h3.1 h3.2
  have hB : mixB n m k = true := by unfold mixB; rw [hi1, hi2, hi3]; rfl
  have hnm : n * m ≤ 64 := Int.le_trans (Int.mul_le_mul h1.2 h2.2 (by omega) (by omega)) (by omega)
  have hnm0 : 0 ≤ n * m := Int.mul_nonneg (by omega) (by omega)
  have hwr : IntKind.i64.wrap (n * m) = n * m := wr64 _ ⟨by omega, by omega⟩
  by_cases h4 : n * m ≤ 8
  rotate_left
  · have hE := hide (mix_2 (n := n) (m := m) (k := k) hB h4)
    obtain ⟨p, hp⟩ : ∃ p, n * m = p := ⟨_, rfl⟩
    have hw2 : IntKind.i64.wrap (n * m) = p := by rw [hwr]; exact hp
    rw [hp] at h4
    have h4' : 8 < p := by omega
    clear hp h4 hnm hnm0 hB hwr
    go_enter Try.func20, Try.ntmps20
    go_wp2_with fail
    refine (l01In_v true n 1 8 _ hi1).mono ?_
    rintro e w1 ⟨rfl, d0, rfl⟩
    go_wp2_with fail
    refine (l01In_v true m 1 8 _ hi2).mono ?_
    rintro e w1 ⟨rfl, d1, rfl⟩
    go_wp2_with fail
    refine (l01In_v true k 0 7 _ hi3).mono ?_
    rintro e w1 ⟨rfl, d2, rfl⟩
    have br := ((br0.drewN (d0 + d1)).drewN d2)
    have hbw := (below_drewN (below_drewN hb0 (d0 + d1)) d2)
    obtain ⟨w1, hw1⟩ : ∃ w1, ((w.alloc (.cells #[.slice none 0 0, .int .i64 0, .slice none 0 0] 25)).drewN (d0 + d1)).drewN d2 = w1 := ⟨_, rfl⟩
    rw [hw1] at br hbw ⊢
    clear hw1 br0 hb0
    have g0 := br.frozen 0
    have g1 := br.frozen 1
    have g2 := br.frozen 2
    have y0 := br.cell 0
    have y1 := br.cell 1
    have y2 := br.cell 2
    have hb3 := put3_blk (x := .slice none 0 0) (y := .int .i64 0) (z := .slice none 0 0) br
    have q0 := hb3.cell 0
    have q1 := hb3.cell 1
    have q2 := hb3.cell 2
    unfold put3 at q0 q1 q2
    go_wp2_with fail
    refine bodyPost_ret (v := .tuple #[.agg #[.slice none 0 0, .int .i64 0, .slice none 0 0], .int .i64 3]) (by simp [results, Try.results20, go_sem, q0, q1, q2]) rfl ?_
    rw [hE.out.1, hE.out.2]
    exact ⟨_, rfl, cocycle_zero _ _ (fun b hb => hb.2), put3_below hbw (Nat.le_refl _)⟩
  obtain ⟨n, rfl⟩ : ∃ q : Nat, n = (q : Int) := ⟨n.toNat, by omega⟩
  obtain ⟨m, rfl⟩ : ∃ q : Nat, m = (q : Int) := ⟨m.toNat, by omega⟩
  have hE := hide (mix_3 (n := n) (m := m) (k := k) hB h4)
  obtain ⟨hk0, hk1⟩ := h3
  have hp8 : n * m ≤ 8 := by have : ((n * m : Nat) : Int) ≤ 8 := by push_cast; exact h4
                             omega
  have HS := hide (fun W => l17Mixed_any W n m k (by omega) (by omega) hp8 hk0 hk1)
  obtain ⟨q, hq⟩ : ∃ q, (n : Int) * (m : Int) = q := ⟨_, rfl⟩
  have hw2 : IntKind.i64.wrap ((n : Int) * (m : Int)) = q := by rw [hwr]; exact hq
  rw [hq] at h4
  clear hq hwr hnm hnm0 hB hp8
  go_enter Try.func20, Try.ntmps20
  go_wp2_with fail
  refine (l01In_v true n 1 8 _ hi1).mono ?_
  rintro e w1 ⟨rfl, d0, rfl⟩
  go_wp2_with fail
  refine (l01In_v true m 1 8 _ hi2).mono ?_
  rintro e w1 ⟨rfl, d1, rfl⟩
  go_wp2_with fail
  refine (l01In_v true k 0 7 _ hi3).mono ?_
  rintro e w1 ⟨rfl, d2, rfl⟩
  have br := (br0.drewN (d0 + d1)).drewN d2
  have hbw := (below_drewN (below_drewN hb0 (d0 + d1)) d2)
  obtain ⟨w1, hw1'⟩ : ∃ w1, ((w.alloc (.cells #[.slice none 0 0, .int .i64 0, .slice none 0 0] 25)).drewN (d0 + d1)).drewN d2 = w1 := ⟨_, rfl⟩
  rw [hw1'] at br hbw ⊢
  have hrl := br.lt
  clear hw1' br0 hb0
  go_wp2_with fail
  refine (HS.out w1).mono ?_
  rintro e w2 ⟨v, rfl, he, hb2⟩
  obtain ⟨A1, n1, c1, z1, D1, m1, e1, rfl, hz1⟩ := cocycle_form (cocycle_rd he)
  have br2 := br.all hb2
  have hbw2 := hbw.trans (hb2.mono hbw.size)
  clear br hz1
  have g0 := br2.frozen 0
  have g1 := br2.frozen 1
  have g2 := br2.frozen 2
  have y0 := br2.cell 0
  have y1 := br2.cell 1
  have y2 := br2.cell 2
  have hb3 := put3_blk (x := .slice A1 n1 c1) (y := .int .i64 z1) (z := .slice D1 m1 e1) br2
  have q0 := hb3.cell 0
  have q1 := hb3.cell 1
  have q2 := hb3.cell 2
  unfold put3 at q0 q1 q2
  go_wp2_with fail
  refine bodyPost_ret (v := .tuple #[.agg #[.slice A1 n1 c1, .int .i64 z1, .slice D1 m1 e1], .int .i64 0]) (by simp [results, Try.results20, go_sem, q0, q1, q2]) rfl ?_
  rw [hE.out.1, hE.out.2]
  exact ⟨_, rfl, cocycle_put he hbw2 hrl (Nat.le_refl _), put3_below hbw2 (Nat.le_refl _)⟩

theorem mixF_any (w : World) (p q x y z m : Nat) (k : Int) (hp : w.cell? ⟨p, 0, none⟩ = some (.int .i64 k)) (hq : w.cell? ⟨q, 0, none⟩ = some (.int .i64 m)) (hx : x < 8) (hy : y < 8) (hz : z < 8) (k0 : 0 ≤ k) (k1 : k ≤ 7) (m1 : 1 ≤ m) (hm : m ≤ 8) :
    Calls Try.prog 62 #[.int .i64 x, .int .i64 y, .int .i64 z, .pointer (some ⟨p, 0, none⟩), .pointer (some ⟨q, 0, none⟩)] w (Re w (.int .i64 (if (m : Int) ≤ ((y % m : Nat) : Int) + ((z % m : Nat) : Int) then k * ((x / m : Nat) : Int) else 0))) := by
  obtain ⟨ym, hym⟩ : ∃ t, y % m = t := ⟨_, rfl⟩
  obtain ⟨zm, hzm⟩ : ∃ t, z % m = t := ⟨_, rfl⟩
  obtain ⟨xm, hxm⟩ : ∃ t, x / m = t := ⟨_, rfl⟩
  have u0 : ¬ m = 0 := by omega
  have u1 : (y : Int).tmod m = ym := by rw [Int.tmod_eq_emod_of_nonneg (by omega), ← hym]; rfl
  have u2 : (z : Int).tmod m = zm := by rw [Int.tmod_eq_emod_of_nonneg (by omega), ← hzm]; rfl
  have u3 : ym < m := by rw [← hym]; exact Nat.mod_lt _ (by omega)
  have u4 : zm < m := by rw [← hzm]; exact Nat.mod_lt _ (by omega)
  have v1 : (x : Int).tdiv m = xm := by rw [Int.tdiv_eq_ediv_of_nonneg (by omega), ← hxm]; rfl
  have v2 : xm ≤ x := by rw [← hxm]; exact Nat.div_le_self _ _
  have v3 : IntKind.i64.wrap (xm : Int) = xm := wr64 _ ⟨by omega, by omega⟩
  rw [hym, hzm, hxm]
  clear hym hzm hxm
  have hkx0 : 0 ≤ k * (xm : Int) := Int.mul_nonneg k0 (by omega)
  have hkx1 : k * (xm : Int) ≤ 7 * 8 := Int.mul_le_mul k1 (by omega) (by omega) (by omega)
  have w1 : IntKind.i64.wrap (k * (xm : Int)) = k * (xm : Int) := wr64 _ ⟨by omega, by omega⟩
  have HC := hide (fun W => carry_any W (k * (xm : Int)) ym zm m (by omega) (by omega))
  have hpl : p < w.heap.size := World.block_lt_of_cell? _ _ hp
  have hql : q < w.heap.size := World.block_lt_of_cell? _ _ hq
  have Hp := hide hp
  have Hq := hide hq
  clear hp hq
  obtain ⟨r, hr⟩ : ∃ r, (if (m : Int) ≤ (ym : Int) + zm then k * (xm : Int) else 0) = r := ⟨_, rfl⟩
  rw [hr] at HC ⊢
  clear hr
  go_enter Try.func62, Try.ntmps62
  go_wp2_with fail
  refine wp_region_be [0, 1, 2, 3, 4, 5, 6, 7, 8, 9, 10, 11, 12, 13] 13 w.heap.size w (by kernel_rfl) (by kernel_rfl) (by kernel_rfl) (fun _ _ _ _ _ h => h) (Below.refl _ _) (fun wd hBe => ?_)
  repeat (first | (apply ord_tk rfl (by rfl) (by rfl) (by rfl); (focus (intro wx hSw; have r1 := (hSw.cell (p := ⟨p, 0, none⟩) hpl).trans Hp.out; have r2 := (hSw.cell (p := ⟨q, 0, none⟩) hql).trans Hq.out; go_simp; (try with_reducible rfl))); (try simp only [Act.put, List.setIfInBounds_toArray, List.set_cons_zero, List.set_cons_succ])) | (apply ord_skip rfl (by rfl) (by rfl) (fun _ => hBe); (try simp only [Act.put, List.setIfInBounds_toArray, List.set_cons_zero, List.set_cons_succ])))
  refine ord_do rfl (by rfl) (by rfl) (fun K hK => ?_)
  go_simp
  refine (HC.out wd).mono ?_
  rintro e wd' ⟨rfl, hwd⟩
  replace hBe := hBe.trans (hwd.mono hBe.size)
  clear hwd
  refine hK.out _ _ (fun _ => hBe) ?_
  (try simp only [Act.put, List.setIfInBounds_toArray, List.set_cons_zero, List.set_cons_succ])
  clear hK K
  refine ord_do rfl (by rfl) (by rfl) (fun K hK => ?_)
  go_simp
  refine hK.out _ _ (fun h => absurd h (by omega)) ?_
  (try simp only [Act.put, List.setIfInBounds_toArray, List.set_cons_zero, List.set_cons_succ])
  clear hK K
  refine ord_nil ?_
  go_wp2_with fail
  go_ret
  exact ⟨rfl, hBe⟩
set_option maxHeartbeats 8000000 in
theorem cby_mix (w : World) (A : Option Addr) (nn c : Nat) (os : List Int) (M : Int) (p q : Nat) (num : Nat → Nat → Nat → Int) (h : Sl w w.heap.size A nn c os) (hn : nn ≤ 1048576) (hH : OkH os) (hp8 : prodL os ≤ 8) (m1 : 1 ≤ M) (m2 : M ≤ 1000)
    (hcall : ∀ x y z, x < (prodL os).toNat → y < (prodL os).toNat → z < (prodL os).toNat → ∀ wd, Below w.heap.size w wd → Calls Try.prog 62 #[.int .i64 x, .int .i64 y, .int .i64 z, .pointer (some ⟨p, 0, none⟩), .pointer (some ⟨q, 0, none⟩)] wd (Re wd (.int .i64 (num x y z)))) :
    Calls Try.prog 50 #[.slice A nn c, .int .i64 M, .func (.func 62) #[] #[.pointer (some ⟨p, 0, none⟩), .pointer (some ⟨q, 0, none⟩)]] w (MkE cocycle_E w (os, M, cub (prodL os).toNat fun x y z => num x y z % M)) := by
  obtain rfl := h.len
  have hp1 := hH.ge
  obtain ⟨n, hN⟩ : ∃ n : Nat, (prodL os).toNat = n := ⟨_, rfl⟩
  have hnp : prodL os = n := by omega
  rw [hN] at hcall ⊢
  have HC := hide hcall
  have hgs := fun W B (hW : Sl W B A os.length c os) => groupSize_any W B A os.length c os hW hn
  have hgz : gsz os = n := by rw [gsz_ok ⟨hH.l1, hH.m1⟩]; omega
  rw [hgz] at hgs
  have HG := hide hgs
  have hn8 : n ≤ 8 := by omega
  have hn1 : 1 ≤ n := by omega
  clear hcall hgs hgz hN hnp hp1 hp8
  go_enter Try.func50, Try.ntmps50
  go_wp2_with fail
  have hb0 : Below w.heap.size w (w.alloc (.cells #[.slice none 0 0, .int .i64 0, .slice none 0 0] 25)) := (Below.refl _ _).alloc (Nat.le_refl _) _
  have br0 : Blk (w.alloc (.cells #[.slice none 0 0, .int .i64 0, .slice none 0 0] 25)) w.heap.size 25 #[.slice none 0 0, .int .i64 0, .slice none 0 0] := Blk.new _ _ _
  refine ((clone_any _ w.heap.size _ _ _ _ (h.below hb0) (by simp) hn).mono fun _ _ hh => mkE1 hh h.rng).mono ?_
  rintro e w1 ⟨vo, rfl, ho, hb1⟩
  obtain ⟨Ao, co, rfl, _⟩ := ho.sl
  have hb1' := hb0.trans (hb1.mono (by simp))
  have br1 := br0.all hb1
  have hsz1 := hb1.size
  simp only [World.size_alloc] at hsz1 ho
  go_wp2_with fail
  refine (HG.out _ _ (h.below hb1')).mono ?_
  rintro e w2 ⟨rfl, d, rfl⟩
  obtain ⟨w2, hw2⟩ : ∃ w2, w1.drewN d = w2 := ⟨_, rfl⟩
  have hb2 : Below w1.heap.size w1 w2 := by rw [← hw2]; exact below_drewN (Below.refl _ _) _
  have br2 := br1.all hb2
  have ho2 := E1.below ho hb2
  have hb2' := hb1'.trans (hb2.mono hb1'.size)
  have hs2 : w2.heap.size = w1.heap.size := by rw [← hw2]; rfl
  rw [hw2]
  clear hw2 hb0 br0 br1
  obtain ⟨g, hg⟩ : ∃ g, w1.heap.size = g := ⟨_, rfl⟩
  rw [hg] at hsz1 ho2 hs2
  go_wp2_with fail
  obtain ⟨w3, hw3⟩ : ∃ w3, w2.alloc (.cells #[.slice Ao os.length co, .int .i64 M, .slice none 0 0] 25) = w3 := ⟨_, rfl⟩
  have hC3 : CBy w w.heap.size g (.slice Ao os.length co) os M (.slice none 0 0) [] w3 := by
    rw [← hw3]
    refine ⟨br2.alloc _, Blk.new' _ _ _ _ hs2, E1.mono (E1.below ho2 ((Below.refl _ _).alloc (Nat.le_refl _) _)) (fun b hb => ⟨by have := hb.1; omega, hb.2⟩) (fun b hb => by have := hb.2; simp; omega), Grow.nil _, Nat.le_refl _, by omega, hb2'.alloc hb2'.size _⟩
  try rw [hg]
  rw [hw3]
  clear hw3 br2 ho2 hb2' hs2 ho hb1 hb1' hb2 hg hsz1
  go_loopw [20] (fun i wr => ∃ (k : Nat) (vv : Value), k ≤ n ∧ i = .int .i64 k ∧ CBy w w.heap.size g (.slice Ao os.length co) os M vv ((List.range k).map fun x => mat n fun y z => num x y z % M) wr) (fun i _ => n - (intOf i).toNat)
  case atStart => exact ⟨0, _, by omega, rfl, hC3⟩
  case round =>
    clear hC3
    obtain ⟨k, vv, hk, rfl, hCB⟩ := hrel
    by_cases hlk : k < n
    · obtain ⟨w4, rfl⟩ : ∃ w4, w4 = wr := ⟨_, rfl⟩
      have hw4 := hCB.below.size
      have hg4 := hCB.out.lt
      go_wp2_with fail
      refine (zeros_any w4 n n (by omega) (by omega)).mono ?_
      rintro e w5 ⟨vr, rfl, hGr, hb5⟩
      have hEr := hGr.toL
      obtain ⟨Ar', cr, rfl⟩ := hGr.val
      rw [List.length_replicate] at hEr hGr ⊢
      rw [← pm_zero n fun y z => num k y z % M] at hEr
      obtain ⟨S5, hS5⟩ : ∃ S5, w5.heap.size = S5 := ⟨_, rfl⟩
      have hE5 : E2 w5 (.slice Ar' n cr) (pm n (fun y z => num k y z % M) 0 0) (fun b => w4.heap.size ≤ b ∧ b < S5) := by rw [← hS5]; exact hEr
      clear hEr hGr hS5
      go_wp2_with fail
      go_loopw [27] (fun i wx => ∃ y : Nat, y ≤ n ∧ i = .int .i64 y ∧ E2 wx (.slice Ar' n cr) (pm n (fun y z => num k y z % M) y 0) (fun b => w4.heap.size ≤ b ∧ b < S5) ∧ Below w4.heap.size w4 wx) (fun i _ => n - (intOf i).toNat)
      case atStart => exact ⟨0, by omega, rfl, hE5, hb5⟩
      case round =>
        clear hE5 hb5
        obtain ⟨y, hy, rfl, hE5, hb5⟩ := hrel
        by_cases hly : y < n
        · go_wp2_with fail
          go_loopw [31] (fun i wx => ∃ z : Nat, z ≤ n ∧ i = .int .i64 z ∧ E2 wx (.slice Ar' n cr) (pm n (fun y z => num k y z % M) y z) (fun b => w4.heap.size ≤ b ∧ b < S5) ∧ Below w4.heap.size w4 wx) (fun i _ => n - (intOf i).toNat)
          case atStart => exact ⟨0, by omega, rfl, hE5, hb5⟩
          case round =>
            clear hE5 hb5
            obtain ⟨z, hz, rfl, hE5, hb5⟩ := hrel
            by_cases hlz : z < n
            · have hm0 := Int.emod_nonneg (num k y z) (show M ≠ 0 by omega)
              have hm1 := Int.emod_lt_of_pos (num k y z) (show 0 < M by omega)
              obtain ⟨gr, g2, cr', c2, ev, hgr, hg2, x1, ⟨u, x2⟩, x3, x4, HL⟩ := E2.later hE5 hly hlz ⟨by omega, by omega⟩
              injection ev with ev1 _ ev2
              subst ev1
              subst ev2
              have HLA := hide HL
              have hCx := hCB.bel hb5
              have y0 := hCx.out.cell 0
              have y1 := hCx.out.cell 1
              have y2 := hCx.out.cell 2
              have hgx := hCx.out.lt
              have hcl := HC.out k y z hlk hly hlz
              obtain ⟨q, hq⟩ : ∃ q, num k y z = q := ⟨_, rfl⟩
              rw [hq] at hcl hm0 hm1
              have HQ := hide hq
              have HCL := hide hcl
              have X1 := hide x1
              have X2 := hide x2
              have X3 := hide x3
              have Y0 := hide y0
              have Y1 := hide y1
              have Y2 := hide y2
              clear HL hcl hq x1 x2 x3 y0 y1 y2
              obtain ⟨w6, rfl⟩ : ∃ w6, w6 = wr := ⟨_, rfl⟩
              have hb6w := hCx.below
              go_wp2_with fail
              refine wp_region_be [0, 1, 2, 3, 4, 5, 6, 7, 8, 9, 10, 11, 12, 13] 12 w6.heap.size w6 (by kernel_rfl) (by kernel_rfl) (by kernel_rfl) (fun _ _ _ _ _ h => h) (Below.refl _ _) (fun wd hBe => ?_)
              repeat (first | (apply ord_tk rfl (by rfl) (by rfl) (by rfl); (focus (intro wx hSw; have r0 := (hSw.cell (p := ⟨g, 0, none⟩) hgx).trans Y0.out; have r1 := (hSw.cell (p := ⟨g, 1, none⟩) hgx).trans Y1.out; have r2 := (hSw.cell (p := ⟨g, 2, none⟩) hgx).trans Y2.out; have r3 := (hSw.cell (p := ⟨gr, y, none⟩) hgr).trans X1.out; go_simp; (try with_reducible rfl))); (try simp only [Act.put, List.setIfInBounds_toArray, List.set_cons_zero, List.set_cons_succ])) | (apply ord_skip rfl (by rfl) (by rfl) (fun _ => hBe); (try simp only [Act.put, List.setIfInBounds_toArray, List.set_cons_zero, List.set_cons_succ])))
              refine ord_do rfl (by rfl) (by rfl) (fun K hK => ?_)
              go_simp
              refine (HCL.out _ (hb6w.trans (hBe.mono hb6w.size))).mono ?_
              rintro e wd' ⟨rfl, hwd⟩
              replace hBe := hBe.trans (hwd.mono hBe.size)
              clear hwd
              refine hK.out _ _ (fun _ => hBe) ?_
              (try simp only [Act.put, List.setIfInBounds_toArray, List.set_cons_zero, List.set_cons_succ])
              clear hK K
              repeat (first | (apply ord_tk rfl (by rfl) (by rfl) (by rfl); (focus (intro wx hSw; have r0 := (hSw.cell (p := ⟨g, 0, none⟩) hgx).trans Y0.out; have r1 := (hSw.cell (p := ⟨g, 1, none⟩) hgx).trans Y1.out; have r2 := (hSw.cell (p := ⟨g, 2, none⟩) hgx).trans Y2.out; have r3 := (hSw.cell (p := ⟨gr, y, none⟩) hgr).trans X1.out; go_simp; (try with_reducible rfl))); (try simp only [Act.put, List.setIfInBounds_toArray, List.set_cons_zero, List.set_cons_succ])) | (apply ord_skip rfl (by rfl) (by rfl) (fun _ => hBe); (try simp only [Act.put, List.setIfInBounds_toArray, List.set_cons_zero, List.set_cons_succ])))
              refine ord_do rfl (by rfl) (by rfl) (fun K hK => ?_)
              go_simp
              refine (restC_any _ _ _ M q m1 (by omega)).mono ?_
              rintro e wd' ⟨rfl, hwd⟩
              replace hBe := hBe.trans (hwd.mono hBe.size)
              clear hwd
              refine hK.out _ _ (fun _ => hBe) ?_
              (try simp only [Act.put, List.setIfInBounds_toArray, List.set_cons_zero, List.set_cons_succ])
              clear hK K
              repeat (first | (apply ord_tk rfl (by rfl) (by rfl) (by rfl); (focus (intro wx hSw; have r0 := (hSw.cell (p := ⟨g, 0, none⟩) hgx).trans Y0.out; have r1 := (hSw.cell (p := ⟨g, 1, none⟩) hgx).trans Y1.out; have r2 := (hSw.cell (p := ⟨g, 2, none⟩) hgx).trans Y2.out; have r3 := (hSw.cell (p := ⟨gr, y, none⟩) hgr).trans X1.out; go_simp; (try with_reducible rfl))); (try simp only [Act.put, List.setIfInBounds_toArray, List.set_cons_zero, List.set_cons_succ])) | (apply ord_skip rfl (by rfl) (by rfl) (fun _ => hBe); (try simp only [Act.put, List.setIfInBounds_toArray, List.set_cons_zero, List.set_cons_succ])))
              have s2 := (hBe.cell (p := ⟨g2, z, none⟩) hg2).trans X2.out
              have s3 := (hBe.frozen (p := ⟨g2, z, none⟩) hg2).trans X3.out
              refine ord_do rfl (by rfl) (by rfl) (fun K hK => ?_)
              go_simp
              refine hK.out _ _ (fun h => absurd h (by omega)) ?_
              (try simp only [Act.put, List.setIfInBounds_toArray, List.set_cons_zero, List.set_cons_succ])
              clear hK K
              refine ord_do rfl (by rfl) (by rfl) (fun K hK => ?_)
              go_simp
              refine hK.out _ _ (fun h => absurd h (by omega)) ?_
              (try simp only [Act.put, List.setIfInBounds_toArray, List.set_cons_zero, List.set_cons_succ])
              clear hK K
              refine ord_nil ?_
              have hE6 := HLA.out wd' hBe
              rw [HQ.out] at hE6
              clear s2 s3
              go_wp2_with fail
              go_roundw
              case rel => exact ⟨z + 1, by omega, by go_num, hE6, (hb5.trans (hBe.mono hb5.size)).setCell x4.1 _⟩
              case measure => simp [intOf] <;> omega
            · obtain rfl : z = n := by omega
              rw [pm_next] at hE5
              go_wp2_with fail
              go_roundw
              case rel => exact ⟨y + 1, by omega, by go_num, hE5, hb5⟩
              case measure => simp [intOf] <;> omega
        · obtain rfl : y = n := by omega
          rw [pm_all] at hE5
          obtain ⟨w6, rfl⟩ : ∃ w6, w6 = wr := ⟨_, rfl⟩
          have hCx := hCB.bel hb5
          have y2 := hCx.out.cell 2
          have z2 := hCx.out.frozen 2
          have hgx := hCx.out.lt
          have hl6 := hb5.size
          have hbw : Below w6.heap.size w6 (w6.alloc (.cells #[.slice Ar' y cr] 35)) := (Below.refl _ _).alloc (Nat.le_refl _) _
          have hE6 := E2.below hE5 hbw
          have hlen : ((List.range k).map fun x => mat y fun y z => num x y z % M).length ≤ 1048576 := by simp; omega
          have hg4' : g + 1 ≤ w4.heap.size := hg4
          obtain ⟨Av, cv, rfl⟩ := hCB.vals.val
          rw [List.length_map, List.length_range] at *
          have hgL : g < (w6.alloc (.cells #[.slice Ar' y cr] 35)).heap.size := by simp; omega
          go_wp2_with (at_builtin; refine list_pushG kp2 23 35 _ 24 Try.underlying23 rows2_info (by omega) rfl _ rfl _ _ rfl (g + 1) (.slice Av k cv) _ rfl w4 hCB.vals (hb5.trans (hbw.mono hl6)) (.slice Ar' y cr) _ _ hE6 (fun b hb => ⟨hb.1, by have := hE5.bd b hb; simp; omega⟩) rfl w6.heap.size _ rfl (Blk.new _ _ _) (by simp; omega) hg4' (by simp) ?_; intro g' cap' w7 hG7 hB7 hW7 hg7 hg8; have t2 := (hB7.cell (p := ⟨g, 2, none⟩) (Nat.lt_succ_self g)).trans ((hbw.cell (p := ⟨g, 2, none⟩) hgx).trans y2); have t3 := (hB7.frozen (p := ⟨g, 2, none⟩) (Nat.lt_succ_self g)).trans ((hbw.frozen (p := ⟨g, 2, none⟩) hgx).trans z2))
          have hN := hCB.next (hb5.trans (hbw.mono hl6)) hB7 hG7
          rw [List.length_map, List.length_range, cub_snoc' (f := fun x y z => num x y z % M)] at hN
          go_roundw
          case rel => exact ⟨k + 1, _, by omega, by go_num, hN⟩
          case measure => simp [intOf] <;> omega
    · obtain rfl : k = n := by omega
      obtain ⟨Av, cv, rfl⟩ := hCB.vals.val
      rw [List.length_map, List.length_range] at *
      have hfin := hCB.fin
      have x0 := hCB.out.cell 0
      have x1 := hCB.out.cell 1
      have x2 := hCB.out.cell 2
      have g0 := hCB.res.frozen 0
      have g1 := hCB.res.frozen 1
      have g2 := hCB.res.frozen 2
      have y0 := hCB.res.cell 0
      have y1 := hCB.res.cell 1
      have y2 := hCB.res.cell 2
      have hb3 := put3_blk (x := .slice Ao os.length co) (y := .int .i64 M) (z := .slice Av k cv) hCB.res
      have q0 := hb3.cell 0
      have q1 := hb3.cell 1
      have q2 := hb3.cell 2
      unfold put3 at q0 q1 q2
      go_wp2_with fail
      refine bodyPost_ret (v := .agg #[.slice Ao os.length co, .int .i64 M, .slice Av k cv]) (by simp [results, Try.results50, go_sem, q0, q1, q2]) rfl ?_
      exact ⟨_, rfl, ⟨show i64ok M from ⟨by omega, by omega⟩, hfin⟩, put3_below hCB.below (Nat.le_refl _)⟩
set_option maxHeartbeats 8000000 in
theorem implMix_c (w : World) (n : Int) (wn : i64ok n) (m : Int) (wm : i64ok m) (k : Int) (wk : i64ok k) : Calls Try.prog 21 #[.int .i64 n, .int .i64 m, .int .i64 k] w (MkEC cocycle_E w (mixC n m k) (mixK n m k)) := by
  by_cases h1 : 1 ≤ n ∧ n ≤ 8
  rotate_left
  · have hi1 := inB_f h1
    have hE := hide (mix_1 (n := n) (m := m) (k := k) (by unfold mixB; rw [hi1]; rfl))
    clear h1
    go_enter Try.func21, Try.ntmps21
    go_wp2_with fail
    obtain ⟨W, hW⟩ : ∃ W, (w.alloc (.cells #[.int .i64 k] 2)).alloc (.cells #[.slice none 0 0, .int .i64 0, .slice none 0 0] 25) = W := ⟨_, rfl⟩
    have hb0 : Below w.heap.size w W := by rw [← hW]; exact (by repeat (first | assumption | exact Below.refl _ _ | apply below_drewN | apply Below.drew | apply Below.alloc | apply Below.setCell | omega | (focus (simp; done)) | (focus (simp; omega))))
    have bk : Blk W w.heap.size 2 #[.int .i64 k] := by rw [← hW]; exact (Blk.new _ _ _).alloc _
    have br : Blk W (w.heap.size + 1) 25 #[.slice none 0 0, .int .i64 0, .slice none 0 0] := by rw [← hW]; exact Blk.new' _ _ _ _ (by simp)
    rw [hW]
    clear hW
    refine (within_v false n 1 8 _ hi1).mono ?_
    rintro e w1 ⟨rfl, d0, rfl⟩
    obtain ⟨w1, hw1⟩ : ∃ w1, W.drewN d0 = w1 := ⟨_, rfl⟩
    have hb1 : Below W.heap.size W w1 := by rw [← hw1]; exact (below_drewN (Below.refl _ _) d0)
    rw [hw1]
    clear hw1
    have br1 := br.all hb1
    have hbw := hb0.trans (hb1.mono hb0.size)
    clear br bk
    have g0 := br1.frozen 0
    have g1 := br1.frozen 1
    have g2 := br1.frozen 2
    have y0 := br1.cell 0
    have y1 := br1.cell 1
    have y2 := br1.cell 2
    have hb3 := put3_blk (x := .slice none 0 0) (y := .int .i64 0) (z := .slice none 0 0) br1
    have q0 := hb3.cell 0
    have q1 := hb3.cell 1
    have q2 := hb3.cell 2
    unfold put3 at q0 q1 q2
    go_wp2_with fail
    refine bodyPost_ret (v := .tuple #[.agg #[.slice none 0 0, .int .i64 0, .slice none 0 0], .int .i64 2]) (by simp [results, Try.results21, go_sem, q0, q1, q2]) rfl ?_
    rw [hE.out.1, hE.out.2]
    exact ⟨_, rfl, cocycle_zero _ _ (fun b hb => hb.2), put3_below hbw (by omega)⟩
  have hi1 := inB_t h1.1 h1.2
  by_cases h2 : 1 ≤ m ∧ m ≤ 8
  rotate_left
  · have hi2 := inB_f h2
    have hE := hide (mix_1 (n := n) (m := m) (k := k) (by unfold mixB; rw [hi1, hi2]; rfl))
    clear h2
    go_enter Try.func21, Try.ntmps21
    go_wp2_with fail
    obtain ⟨W, hW⟩ : ∃ W, (w.alloc (.cells #[.int .i64 k] 2)).alloc (.cells #[.slice none 0 0, .int .i64 0, .slice none 0 0] 25) = W := ⟨_, rfl⟩
    have hb0 : Below w.heap.size w W := by rw [← hW]; exact (by repeat (first | assumption | exact Below.refl _ _ | apply below_drewN | apply Below.drew | apply Below.alloc | apply Below.setCell | omega | (focus (simp; done)) | (focus (simp; omega))))
    have bk : Blk W w.heap.size 2 #[.int .i64 k] := by rw [← hW]; exact (Blk.new _ _ _).alloc _
    have br : Blk W (w.heap.size + 1) 25 #[.slice none 0 0, .int .i64 0, .slice none 0 0] := by rw [← hW]; exact Blk.new' _ _ _ _ (by simp)
    rw [hW]
    clear hW
    refine (within_v true n 1 8 _ hi1).mono ?_
    rintro e w1 ⟨rfl, d0, rfl⟩
    go_wp2_with fail
    refine (within_v false m 1 8 _ hi2).mono ?_
    rintro e w1 ⟨rfl, d1, rfl⟩
    obtain ⟨w1, hw1⟩ : ∃ w1, (W.drewN d0).drewN d1 = w1 := ⟨_, rfl⟩
    have hb1 : Below W.heap.size W w1 := by rw [← hw1]; exact (below_drewN (below_drewN (Below.refl _ _) d0) d1)
    rw [hw1]
    clear hw1
    have br1 := br.all hb1
    have hbw := hb0.trans (hb1.mono hb0.size)
    clear br bk
    have g0 := br1.frozen 0
    have g1 := br1.frozen 1
    have g2 := br1.frozen 2
    have y0 := br1.cell 0
    have y1 := br1.cell 1
    have y2 := br1.cell 2
    have hb3 := put3_blk (x := .slice none 0 0) (y := .int .i64 0) (z := .slice none 0 0) br1
    have q0 := hb3.cell 0
    have q1 := hb3.cell 1
    have q2 := hb3.cell 2
    unfold put3 at q0 q1 q2
    go_wp2_with fail
    refine bodyPost_ret (v := .tuple #[.agg #[.slice none 0 0, .int .i64 0, .slice none 0 0], .int .i64 2]) (by simp [results, Try.results21, go_sem, q0, q1, q2]) rfl ?_
    rw [hE.out.1, hE.out.2]
    exact ⟨_, rfl, cocycle_zero _ _ (fun b hb => hb.2), put3_below hbw (by omega)⟩
  have hi2 := inB_t h2.1 h2.2
  by_cases h3 : 0 ≤ k ∧ k ≤ 7
  rotate_left
  · have hi3 := inB_f h3
    have hE := hide (mix_1 (n := n) (m := m) (k := k) (by unfold mixB; rw [hi1, hi2, hi3]; rfl))
    clear h3
    go_enter Try.func21, Try.ntmps21
    go_wp2_with fail
    obtain ⟨W, hW⟩ : ∃ W, (w.alloc (.cells #[.int .i64 k] 2)).alloc (.cells #[.slice none 0 0, .int .i64 0, .slice none 0 0] 25) = W := ⟨_, rfl⟩
    have hb0 : Below w.heap.size w W := by rw [← hW]; exact (by repeat (first | assumption | exact Below.refl _ _ | apply below_drewN | apply Below.drew | apply Below.alloc | apply Below.setCell | omega | (focus (simp; done)) | (focus (simp; omega))))
    have bk : Blk W w.heap.size 2 #[.int .i64 k] := by rw [← hW]; exact (Blk.new _ _ _).alloc _
    have br : Blk W (w.heap.size + 1) 25 #[.slice none 0 0, .int .i64 0, .slice none 0 0] := by rw [← hW]; exact Blk.new' _ _ _ _ (by simp)
    rw [hW]
    clear hW
    refine (within_v true n 1 8 _ hi1).mono ?_
    rintro e w1 ⟨rfl, d0, rfl⟩
    go_wp2_with fail
    refine (within_v true m 1 8 _ hi2).mono ?_
    rintro e w1 ⟨rfl, d1, rfl⟩
    have c2 := ((bk.drewN d0).drewN d1).cell 0
    have c3 := (bk.drewN (d0 + d1)).cell 0
    go_wp2_with fail
    clear c2 c3
    refine (within_v false k 0 7 _ hi3).mono ?_
    rintro e w1 ⟨rfl, d2, rfl⟩
    obtain ⟨w1, hw1⟩ : ∃ w1, (W.drewN (d0 + d1)).drewN d2 = w1 := ⟨_, rfl⟩
    have hb1 : Below W.heap.size W w1 := by rw [← hw1]; exact (below_drewN (below_drewN (Below.refl _ _) (d0 + d1)) d2)
    rw [hw1]
    clear hw1
    have br1 := br.all hb1
    have hbw := hb0.trans (hb1.mono hb0.size)
    clear br bk
    have g0 := br1.frozen 0
    have g1 := br1.frozen 1
    have g2 := br1.frozen 2
    have y0 := br1.cell 0
    have y1 := br1.cell 1
    have y2 := br1.cell 2
    have hb3 := put3_blk (x := .slice none 0 0) (y := .int .i64 0) (z := .slice none 0 0) br1
    have q0 := hb3.cell 0
    have q1 := hb3.cell 1
    have q2 := hb3.cell 2
    unfold put3 at q0 q1 q2
    go_wp2_with fail
    refine bodyPost_ret (v := .tuple #[.agg #[.slice none 0 0, .int .i64 0, .slice none 0 0], .int .i64 2]) (by simp [results, Try.results21, go_sem, q0, q1, q2]) rfl ?_
    rw [hE.out.1, hE.out.2]
    exact ⟨_, rfl, cocycle_zero _ _ (fun b hb => hb.2), put3_below hbw (by omega)⟩
  have hi3 := inB_t h3.1 h3.2
  have hB : mixB n m k = true := by unfold mixB; rw [hi1, hi2, hi3]; rfl
  have hnm : n * m ≤ 64 := Int.le_trans (Int.mul_le_mul h1.2 h2.2 (by omega) (by omega)) (by omega)
  have hnm0 : 0 ≤ n * m := Int.mul_nonneg (by omega) (by omega)
  have hwr : IntKind.i64.wrap (n * m) = n * m := wr64 _ ⟨by omega, by omega⟩
  by_cases h4 : n * m ≤ 8
  rotate_left
  · have hE := hide (mix_2 (n := n) (m := m) (k := k) hB h4)
    obtain ⟨p, hp⟩ : ∃ p, n * m = p := ⟨_, rfl⟩
    have hw2 : IntKind.i64.wrap (n * m) = p := by rw [hwr]; exact hp
    rw [hp] at h4
    have h4' : 8 < p := by omega
    clear hp h4 hnm hnm0 hB hwr
    go_enter Try.func21, Try.ntmps21
    go_wp2_with fail
    obtain ⟨W, hW⟩ : ∃ W, (w.alloc (.cells #[.int .i64 k] 2)).alloc (.cells #[.slice none 0 0, .int .i64 0, .slice none 0 0] 25) = W := ⟨_, rfl⟩
    have hb0 : Below w.heap.size w W := by rw [← hW]; exact (by repeat (first | assumption | exact Below.refl _ _ | apply below_drewN | apply Below.drew | apply Below.alloc | apply Below.setCell | omega | (focus (simp; done)) | (focus (simp; omega))))
    have bk : Blk W w.heap.size 2 #[.int .i64 k] := by rw [← hW]; exact (Blk.new _ _ _).alloc _
    have br : Blk W (w.heap.size + 1) 25 #[.slice none 0 0, .int .i64 0, .slice none 0 0] := by rw [← hW]; exact Blk.new' _ _ _ _ (by simp)
    rw [hW]
    clear hW
    refine (within_v true n 1 8 _ hi1).mono ?_
    rintro e w1 ⟨rfl, d0, rfl⟩
    go_wp2_with fail
    refine (within_v true m 1 8 _ hi2).mono ?_
    rintro e w1 ⟨rfl, d1, rfl⟩
    have c2 := ((bk.drewN d0).drewN d1).cell 0
    have c3 := (bk.drewN (d0 + d1)).cell 0
    go_wp2_with fail
    clear c2 c3
    refine (within_v true k 0 7 _ hi3).mono ?_
    rintro e w1 ⟨rfl, d2, rfl⟩
    obtain ⟨w1, hw1⟩ : ∃ w1, (W.drewN (d0 + d1)).drewN d2 = w1 := ⟨_, rfl⟩
    have hb1 : Below W.heap.size W w1 := by rw [← hw1]; exact (below_drewN (below_drewN (Below.refl _ _) (d0 + d1)) d2)
    rw [hw1]
    clear hw1
    have br1 := br.all hb1
    have hbw := hb0.trans (hb1.mono hb0.size)
    clear br bk
    have g0 := br1.frozen 0
    have g1 := br1.frozen 1
    have g2 := br1.frozen 2
    have y0 := br1.cell 0
    have y1 := br1.cell 1
    have y2 := br1.cell 2
    have hb3 := put3_blk (x := .slice none 0 0) (y := .int .i64 0) (z := .slice none 0 0) br1
    have q0 := hb3.cell 0
    have q1 := hb3.cell 1
    have q2 := hb3.cell 2
    unfold put3 at q0 q1 q2
    go_wp2_with fail
    refine bodyPost_ret (v := .tuple #[.agg #[.slice none 0 0, .int .i64 0, .slice none 0 0], .int .i64 3]) (by simp [results, Try.results21, go_sem, q0, q1, q2]) rfl ?_
    rw [hE.out.1, hE.out.2]
    exact ⟨_, rfl, cocycle_zero _ _ (fun b hb => hb.2), put3_below hbw (by omega)⟩
  obtain ⟨n, rfl⟩ : ∃ q : Nat, n = (q : Int) := ⟨n.toNat, by omega⟩
  obtain ⟨m, rfl⟩ : ∃ q : Nat, m = (q : Int) := ⟨m.toNat, by omega⟩
  have hE := hide (mix_3 (n := n) (m := m) (k := k) hB h4)
  obtain ⟨hk0, hk1⟩ := h3
  have hp8 : n * m ≤ 8 := by have : ((n * m : Nat) : Int) ≤ 8 := by push_cast; exact h4
                             omega
  have hpr : prodL [(n : Int), (m : Int)] = (n : Int) * (m : Int) := by simp [prodL]
  have hH : OkH [(n : Int), (m : Int)] := ⟨by simp, by simp, by simp; omega, by rw [hpr]; omega⟩
  have hprn : (prodL [(n : Int), (m : Int)]).toNat = n * m := by rw [hpr]; omega
  have hG1 : 0 < Nat.gcd n m := Nat.gcd_pos_of_pos_left m (by omega)
  have hG8 : Nat.gcd n m ≤ n := Nat.gcd_le_left m (by omega)
  have hp64 : prodL [(n : Int), (m : Int)] ≤ 8 := by rw [hpr]; exact h4
  have HG := hide (fun W => gcd_any W n m (by omega) (by omega))
  have HGx := hide (show Nat.gcd n m = Nat.gcd n m from rfl)
  have hN8 := hide hp8
  have hPn := hide hprn
  obtain ⟨q, hq⟩ : ∃ q, (n : Int) * (m : Int) = q := ⟨_, rfl⟩
  have hw2 : IntKind.i64.wrap ((n : Int) * (m : Int)) = q := by rw [hwr]; exact hq
  rw [hq] at h4
  clear hwr
  obtain ⟨G, hG⟩ : ∃ G, Nat.gcd n m = G := ⟨_, rfl⟩
  rw [hG] at HG hG1 hG8 hE
  clear hq hnm hnm0 hB hpr hp8 hprn HGx
  go_enter Try.func21, Try.ntmps21
  go_wp2_with fail
  obtain ⟨W, hW⟩ : ∃ W, (w.alloc (.cells #[.int .i64 k] 2)).alloc (.cells #[.slice none 0 0, .int .i64 0, .slice none 0 0] 25) = W := ⟨_, rfl⟩
  have hb0 : Below w.heap.size w W := by rw [← hW]; exact (by repeat (first | assumption | exact Below.refl _ _ | apply below_drewN | apply Below.drew | apply Below.alloc | apply Below.setCell | omega | (focus (simp; done)) | (focus (simp; omega))))
  have bk : Blk W w.heap.size 2 #[.int .i64 k] := by rw [← hW]; exact (Blk.new _ _ _).alloc _
  have br : Blk W (w.heap.size + 1) 25 #[.slice none 0 0, .int .i64 0, .slice none 0 0] := by rw [← hW]; exact Blk.new' _ _ _ _ (by simp)
  rw [hW]
  clear hW
  refine (within_v true n 1 8 _ hi1).mono ?_
  rintro e w1 ⟨rfl, d0, rfl⟩
  go_wp2_with fail
  refine (within_v true m 1 8 _ hi2).mono ?_
  rintro e w1 ⟨rfl, d1, rfl⟩
  have c2 := ((bk.drewN d0).drewN d1).cell 0
  have c3 := (bk.drewN (d0 + d1)).cell 0
  go_wp2_with fail
  clear c2 c3
  refine (within_v true k 0 7 _ hi3).mono ?_
  rintro e w1 ⟨rfl, d2, rfl⟩
  obtain ⟨w1, hw1⟩ : ∃ w1, (W.drewN (d0 + d1)).drewN d2 = w1 := ⟨_, rfl⟩
  have hb1 : Below W.heap.size W w1 := by rw [← hw1]; exact (below_drewN (below_drewN (Below.refl _ _) (d0 + d1)) d2)
  rw [hw1]
  clear hw1
  have br1 := br.all hb1
  have bk1 := bk.all hb1
  have hbw := hb0.trans (hb1.mono hb0.size)
  clear br bk
  go_wp2_with fail
  have hf : mix n m k = fun x y z => (if (m : Int) ≤ ((y % m : Nat) : Int) + ((z % m : Nat) : Int) then k * ((x / m : Nat) : Int) else 0) % (G : Int) := by funext x y z; unfold mix; rw [hG]
  have hE2 := hE.out
  rw [hf] at hE2
  replace hE := hide hE2
  have hpt : (prodL [(n : Int), (m : Int)]).toNat ≤ 8 := by omega
  have hrr := br1.lt
  have hkk := bk1.lt
  clear hE2 hf hG
  obtain ⟨wA, hwA⟩ : ∃ wA, (w1.alloc (.cells #[.int .i64 m] 3)).alloc (.cells #[.int .i64 n, .int .i64 m] 2) = wA := ⟨_, rfl⟩
  have hbA : Below w1.heap.size w1 wA := by rw [← hwA]; exact ((Below.refl _ _).alloc (Nat.le_refl _) _).alloc (by simp) _
  have bsA : Blk wA w1.heap.size 3 #[.int .i64 m] := by rw [← hwA]; exact (Blk.new _ _ _).alloc _
  have hoA : Sl wA wA.heap.size (some ⟨w1.heap.size + 1, 0, none⟩) 2 2 [(n : Int), (m : Int)] := by
    have h1 : Ow wA (w1.heap.size + 1) (.slice (some ⟨w1.heap.size + 1, 0, none⟩) 2 2) [(n : Int), (m : Int)] := by rw [← hwA]; exact Ow.made' (xs := [(n : Int), (m : Int)]) _ _ (w1.heap.size + 1) 2 (by simp) rfl (Nat.le_refl _) rfl (by unfold maxLen; omega)
    obtain ⟨A, c, e, hs⟩ := h1.sl (by unfold i64ok; simp; omega)
    cases e
    exact hs
  rw [hwA]
  clear hwA
  refine (HG.out _).mono ?_
  rintro e w2 ⟨rfl, d, rfl⟩
  obtain ⟨w2, hw2'⟩ : ∃ w2, wA.drewN d = w2 := ⟨_, rfl⟩
  have hbA2 : Below wA.heap.size wA w2 := by rw [← hw2']; exact below_drewN (Below.refl _ _) _
  have hszA : wA.heap.size = w2.heap.size := by rw [← hw2']; rfl
  have ho := hoA.below hbA2
  rw [hszA] at ho
  have bs2 := bsA.all hbA2
  have bk2 := (bk1.all hbA).all hbA2
  have br2 := (br1.all hbA).all hbA2
  have hbw2 := (hbw.trans (hbA.mono hbw.size)).trans (hbA2.mono (hbw.trans (hbA.mono hbw.size)).size)
  rw [hw2']
  clear hw2' br1 bk1 bsA hoA hbA hbA2 hszA
  go_wp2_with fail
  have hcb := cby_mix w2 _ 2 2 [(n : Int), (m : Int)] G w.heap.size w1.heap.size (fun x y z => if (m : Int) ≤ ((y % m : Nat) : Int) + ((z % m : Nat) : Int) then k * ((x / m : Nat) : Int) else 0) ho (by omega) hH hp64 (by omega) (by omega)
    (fun x y z hx hy hz wd hwd => mixF_any wd _ _ x y z m k ((bk2.all hwd).cell 0) ((bs2.all hwd).cell 0) (by omega) (by omega) (by omega) hk0 hk1 (by omega) (by omega))
  rw [hPn.out] at hcb
  refine hcb.mono ?_
  rintro e w3 ⟨v, rfl, he, hb3⟩
  obtain ⟨A1, n1, c1, z1, D1, m1, e1, rfl, hz1⟩ := cocycle_form (cocycle_rd he)
  have br3 := br2.all hb3
  have hbw3 := hbw2.trans (hb3.mono hbw2.size)
  have hl2 := br2.lt
  clear br2 hz1 hcb
  have g0 := br3.frozen 0
  have g1 := br3.frozen 1
  have g2 := br3.frozen 2
  have y0 := br3.cell 0
  have y1 := br3.cell 1
  have y2 := br3.cell 2
  have hb3 := put3_blk (x := .slice A1 n1 c1) (y := .int .i64 z1) (z := .slice D1 m1 e1) br3
  have q0 := hb3.cell 0
  have q1 := hb3.cell 1
  have q2 := hb3.cell 2
  unfold put3 at q0 q1 q2
  go_wp2_with fail
  refine bodyPost_ret (v := .tuple #[.agg #[.slice A1 n1 c1, .int .i64 z1, .slice D1 m1 e1], .int .i64 0]) (by simp [results, Try.results21, go_sem, q0, q1, q2]) rfl ?_
  rw [hE.out.1, hE.out.2]
  exact ⟨_, rfl, cocycle_put he hbw3 hl2 (by omega), put3_below hbw3 (by omega)⟩

set_option maxHeartbeats 8000000 in
set_option maxRecDepth 100000 in
theorem law_MixedCocycle {w : World} (a0 : Int) (wa0 : i64ok a0) (a1 : Int) (wa1 : i64ok a1) (a2 : Int) (wa2 : i64ok a2) : Calls Try.prog 5 #[.int .i64 a0, .int .i64 a1, .int .i64 a2] w (Re w (.bool true)) := by
  obtain ⟨y0, hy0⟩ : ∃ y : cocycle_T, mixC a0 a1 a2 = y := ⟨_, rfl⟩
  have HY0 := hide hy0
  clear hy0
  obtain ⟨y1, hy1⟩ : ∃ y : Int, mixK a0 a1 a2 = y := ⟨_, rfl⟩
  have HY1 := hide hy1
  clear hy1
  have SY0 : cocycle_tot y0 ≤ 1048576 := by rw [← HY0.out]; exact mixC_tot a0 a1 a2
  have SY := cocycle_sh SY0
  have SY2 := cocycle_sumle y0
  go_enter Try.func5, Try.ntmps5
  go_wp2_with fail
  have kw := Below.refl w.heap.size w
  have hcl := (specMix_c w a0 wa0 a1 wa1 a2 wa2)
  rw [HY0.out, HY1.out] at hcl
  have HCL := hide hcl
  clear hcl
  refine HCL.out.mono ?_
  rintro e t1 ⟨u, rfl, he, hb⟩
  clear HCL
  obtain ⟨Aw, nw, cw, zw, Dw, mw, ew, rfl, hf⟩ := cocycle_form (cocycle_rd he)
  clear hf
  replace kw := kw.trans (hb.mono kw.size)
  clear hb
  have Kt1 := kw.size
  have Zt1 := Nat.le_refl t1.heap.size
  have Rw := cocycle_rd he
  clear he
  obtain ⟨Xw, hXw⟩ : ∃ X, t1.heap.size = X := ⟨_, rfl⟩
  go_wp2_with fail
  obtain ⟨t2, ht2⟩ : ∃ w5, t1.alloc (.cells #[.slice Aw nw cw, .int .i64 zw, .slice Dw mw ew] 25) = w5 := ⟨_, rfl⟩
  have hb : Below t1.heap.size t1 t2 := by rw [← ht2]; exact (Below.refl _ _).alloc (Nat.le_refl _) _
  have bw : Blk t2 Xw 25 #[.slice Aw nw cw, .int .i64 zw, .slice Dw mw ew] := by rw [← ht2]; exact Blk.new' _ _ _ _ hXw
  rw [ht2]
  clear ht2
  replace kw := kw.trans (hb.mono kw.size)
  replace Rw := cocycle_keep Rw (hb.mono Zt1) (Nat.le_refl _)
  replace Zt1 := Nat.le_trans Zt1 hb.size
  clear hb
  have Ot1t2 := Zt1
  have Gbwt2 := bw.lt
  have Kt2 := kw.size
  have Zt2 := Nat.le_refl t2.heap.size
  have hcl := (implMix_c t2 a0 wa0 a1 wa1 a2 wa2)
  rw [HY0.out, HY1.out] at hcl
  have HCL := hide hcl
  clear hcl
  refine HCL.out.mono ?_
  rintro e t3 ⟨u, rfl, he, hb⟩
  clear HCL
  obtain ⟨Ag, ng, cg, zg, Dg, mg, eg, rfl, hf⟩ := cocycle_form (cocycle_rd he)
  clear hf
  replace kw := kw.trans (hb.mono kw.size)
  replace bw := bw.all hb
  replace Rw := cocycle_keep Rw (hb.mono Zt1) (Nat.le_refl _)
  replace Zt1 := Nat.le_trans Zt1 hb.size
  replace Zt2 := Nat.le_trans Zt2 hb.size
  clear hb
  have Eg := he
  clear he
  have Ot1t3 := Zt1
  have Ot2t3 := Zt2
  have Gbwt3 := bw.lt
  have Kt3 := kw.size
  have Zt3 := Nat.le_refl t3.heap.size
  obtain ⟨Xg, hXg⟩ : ∃ X, t3.heap.size = X := ⟨_, rfl⟩
  have bwl2 : Xw < Xg := by have := bw.lt; omega
  have bwc0 := bw.cell 0
  have bwc1 := bw.cell 1
  have bwc2 := bw.cell 2
  have bwlt := bw.lt
  go_wp2_with fail
  clear bwc0 bwc1 bwc2 bwlt
  clear bwl2
  obtain ⟨t4, ht4⟩ : ∃ w5, t3.alloc (.cells #[.slice Ag ng cg, .int .i64 zg, .slice Dg mg eg] 25) = w5 := ⟨_, rfl⟩
  have hb : Below t3.heap.size t3 t4 := by rw [← ht4]; exact (Below.refl _ _).alloc (Nat.le_refl _) _
  have bg : Blk t4 Xg 25 #[.slice Ag ng cg, .int .i64 zg, .slice Dg mg eg] := by rw [← ht4]; exact Blk.new' _ _ _ _ hXg
  rw [ht4]
  clear ht4
  replace kw := kw.trans (hb.mono kw.size)
  replace bw := bw.all hb
  replace Eg := cocycle_below Eg hb
  replace Rw := cocycle_keep Rw (hb.mono Zt1) (Nat.le_refl _)
  replace Zt1 := Nat.le_trans Zt1 hb.size
  replace Zt2 := Nat.le_trans Zt2 hb.size
  replace Zt3 := Nat.le_trans Zt3 hb.size
  clear hb
  have Ot1t4 := Zt1
  have Ot2t4 := Zt2
  have Ot3t4 := Zt3
  have Gbwt4 := bw.lt
  have Gbgt4 := bg.lt
  have Kt4 := kw.size
  have Zt4 := Nat.le_refl t4.heap.size
  refine (cocycle_eq _ _ _ y0 y0 (cocycle_rd Eg) (cocycle_keep Rw (Below.refl _ _) Zt1) SY).mono ?_
  rintro e t5 ⟨rfl, hb⟩
  simp only [beq_self_eq_true]
  replace kw := kw.trans (hb.mono kw.size)
  replace bw := bw.all hb
  replace bg := bg.all hb
  replace Eg := cocycle_below Eg hb
  replace Rw := cocycle_keep Rw (hb.mono Zt1) (Nat.le_refl _)
  replace Zt1 := Nat.le_trans Zt1 hb.size
  replace Zt2 := Nat.le_trans Zt2 hb.size
  replace Zt3 := Nat.le_trans Zt3 hb.size
  replace Zt4 := Nat.le_trans Zt4 hb.size
  clear hb
  have bwc0 := bw.cell 0
  have bwc1 := bw.cell 1
  have bwc2 := bw.cell 2
  have bgc0 := bg.cell 0
  have bgc1 := bg.cell 1
  have bgc2 := bg.cell 2
  have bwlt := bw.lt
  have bglt := bg.lt
  go_wp2_with fail
  clear bwc0 bwc1 bwc2 bgc0 bgc1 bgc2 bwlt bglt
  refine (cocycle_mark _ _ y0 _ 1 Eg (by omega) (by omega) (by omega)).mono ?_
  rintro e t6 ⟨rfl, he, hw⟩
  have hbb := hw.below (B := t2.heap.size) (fun b hf => hf.1) Zt2
  replace kw := kw.trans (hbb.mono Kt2)
  replace bw := hw.blk bw (fun hf => by have a1 := hf.1; have a2 := hf.2; omega)
  replace bg := hw.blk bg (fun hf => by have a1 := hf.1; have a2 := hf.2; omega)
  replace Rw := cocycle_keep Rw (hbb.mono (by omega)) (Nat.le_refl _)
  replace Zt1 := Nat.le_trans Zt1 hw.size
  replace Zt2 := Nat.le_trans Zt2 hw.size
  replace Zt3 := Nat.le_trans Zt3 hw.size
  replace Zt4 := Nat.le_trans Zt4 hw.size
  replace Eg := he
  clear hbb hw he
  obtain ⟨mm, hmm, hmma, hmmb⟩ : ∃ z : Int, 1 + (cocycle_sum y0 : Int) = z ∧ 0 ≤ z ∧ z ≤ 4000000 := ⟨_, rfl, by omega, by omega⟩
  rw [hmm]
  have Hmm := hide hmm
  clear hmm
  have bwc0 := bw.cell 0
  have bwc1 := bw.cell 1
  have bwc2 := bw.cell 2
  have bgc0 := bg.cell 0
  have bgc1 := bg.cell 1
  have bgc2 := bg.cell 2
  have bwlt := bw.lt
  have bglt := bg.lt
  go_wp2_with fail
  clear bwc0 bwc1 bwc2 bgc0 bgc1 bgc2 bwlt bglt
  refine (cocycle_heldc _ _ _ 1 (cocycle_rd Eg) (cocycle_shmk SY) (by omega) (by omega)).mono ?_
  rw [cocycle_heldmk1, Hmm.out]
  rintro e t7 ⟨rfl, hb⟩
  replace kw := kw.trans (hb.mono kw.size)
  replace bw := bw.all hb
  replace bg := bg.all hb
  replace Eg := cocycle_below Eg hb
  replace Rw := cocycle_keep Rw (hb.mono Zt1) (Nat.le_refl _)
  replace Zt1 := Nat.le_trans Zt1 hb.size
  replace Zt2 := Nat.le_trans Zt2 hb.size
  replace Zt3 := Nat.le_trans Zt3 hb.size
  replace Zt4 := Nat.le_trans Zt4 hb.size
  clear hb
  have bwc0 := bw.cell 0
  have bwc1 := bw.cell 1
  have bwc2 := bw.cell 2
  have bgc0 := bg.cell 0
  have bgc1 := bg.cell 1
  have bgc2 := bg.cell 2
  have bwlt := bw.lt
  have bglt := bg.lt
  go_wp2_with fail
  clear bwc0 bwc1 bwc2 bgc0 bgc1 bgc2 bwlt bglt
  have hcl := (implMix_c t7 a0 wa0 a1 wa1 a2 wa2)
  rw [HY0.out, HY1.out] at hcl
  have HCL := hide hcl
  clear hcl
  refine HCL.out.mono ?_
  rintro e t8 ⟨u, rfl, he, hb⟩
  clear HCL
  obtain ⟨Ah, nh, ch, zh, Dh, mh, eh, rfl, hf⟩ := cocycle_form (cocycle_rd he)
  clear hf
  replace kw := kw.trans (hb.mono kw.size)
  replace bw := bw.all hb
  replace bg := bg.all hb
  replace Eg := cocycle_below Eg hb
  replace Rw := cocycle_keep Rw (hb.mono Zt1) (Nat.le_refl _)
  replace Zt1 := Nat.le_trans Zt1 hb.size
  replace Zt2 := Nat.le_trans Zt2 hb.size
  replace Zt3 := Nat.le_trans Zt3 hb.size
  replace Zt4 := Nat.le_trans Zt4 hb.size
  clear hb
  have Eh := he
  clear he
  obtain ⟨Xh, hXh⟩ : ∃ X, t8.heap.size = X := ⟨_, rfl⟩
  have Ot1t8 := Zt1
  have Ot2t8 := Zt2
  have Ot3t8 := Zt3
  have Ot4t8 := Zt4
  have Gbwt8 := bw.lt
  have Gbgt8 := bg.lt
  have Kt8 := kw.size
  have Zt8 := Nat.le_refl t8.heap.size
  have bwl2 : Xw < Xh := by have := bw.lt; omega
  have bgl2 : Xg < Xh := by have := bg.lt; omega
  have bwc0 := bw.cell 0
  have bwc1 := bw.cell 1
  have bwc2 := bw.cell 2
  have bgc0 := bg.cell 0
  have bgc1 := bg.cell 1
  have bgc2 := bg.cell 2
  have bwlt := bw.lt
  have bglt := bg.lt
  go_wp2_with fail
  clear bwc0 bwc1 bwc2 bgc0 bgc1 bgc2 bwlt bglt
  clear bwl2 bgl2
  obtain ⟨t9, ht9⟩ : ∃ w5, t8.alloc (.cells #[.slice Ah nh ch, .int .i64 zh, .slice Dh mh eh] 25) = w5 := ⟨_, rfl⟩
  have hb : Below t8.heap.size t8 t9 := by rw [← ht9]; exact (Below.refl _ _).alloc (Nat.le_refl _) _
  have bh : Blk t9 Xh 25 #[.slice Ah nh ch, .int .i64 zh, .slice Dh mh eh] := by rw [← ht9]; exact Blk.new' _ _ _ _ hXh
  rw [ht9]
  clear ht9
  replace kw := kw.trans (hb.mono kw.size)
  replace bw := bw.all hb
  replace bg := bg.all hb
  replace Eg := cocycle_below Eg hb
  replace Eh := cocycle_below Eh hb
  replace Rw := cocycle_keep Rw (hb.mono Zt1) (Nat.le_refl _)
  replace Zt1 := Nat.le_trans Zt1 hb.size
  replace Zt2 := Nat.le_trans Zt2 hb.size
  replace Zt3 := Nat.le_trans Zt3 hb.size
  replace Zt4 := Nat.le_trans Zt4 hb.size
  replace Zt8 := Nat.le_trans Zt8 hb.size
  clear hb
  have Ot1t9 := Zt1
  have Ot2t9 := Zt2
  have Ot3t9 := Zt3
  have Ot4t9 := Zt4
  have Ot8t9 := Zt8
  have Gbwt9 := bw.lt
  have Gbgt9 := bg.lt
  have Gbht9 := bh.lt
  have Kt9 := kw.size
  have Zt9 := Nat.le_refl t9.heap.size
  refine (cocycle_eq _ _ _ y0 y0 (cocycle_rd Eh) (cocycle_keep Rw (Below.refl _ _) Zt1) SY).mono ?_
  rintro e t10 ⟨rfl, hb⟩
  simp only [beq_self_eq_true]
  replace kw := kw.trans (hb.mono kw.size)
  replace bw := bw.all hb
  replace bg := bg.all hb
  replace bh := bh.all hb
  replace Eg := cocycle_below Eg hb
  replace Eh := cocycle_below Eh hb
  replace Rw := cocycle_keep Rw (hb.mono Zt1) (Nat.le_refl _)
  replace Zt1 := Nat.le_trans Zt1 hb.size
  replace Zt2 := Nat.le_trans Zt2 hb.size
  replace Zt3 := Nat.le_trans Zt3 hb.size
  replace Zt4 := Nat.le_trans Zt4 hb.size
  replace Zt8 := Nat.le_trans Zt8 hb.size
  replace Zt9 := Nat.le_trans Zt9 hb.size
  clear hb
  have bwc0 := bw.cell 0
  have bwc1 := bw.cell 1
  have bwc2 := bw.cell 2
  have bgc0 := bg.cell 0
  have bgc1 := bg.cell 1
  have bgc2 := bg.cell 2
  have bhc0 := bh.cell 0
  have bhc1 := bh.cell 1
  have bhc2 := bh.cell 2
  have bwlt := bw.lt
  have bglt := bg.lt
  have bhlt := bh.lt
  go_wp2_with fail
  clear bwc0 bwc1 bwc2 bgc0 bgc1 bgc2 bhc0 bhc1 bhc2 bwlt bglt bhlt
  refine (cocycle_heldc _ _ _ 1 (cocycle_rd Eg) (cocycle_shmk SY) (by omega) (by omega)).mono ?_
  rw [cocycle_heldmk1, Hmm.out]
  rintro e t11 ⟨rfl, hb⟩
  replace kw := kw.trans (hb.mono kw.size)
  replace bw := bw.all hb
  replace bg := bg.all hb
  replace bh := bh.all hb
  replace Eg := cocycle_below Eg hb
  replace Eh := cocycle_below Eh hb
  replace Rw := cocycle_keep Rw (hb.mono Zt1) (Nat.le_refl _)
  replace Zt1 := Nat.le_trans Zt1 hb.size
  replace Zt2 := Nat.le_trans Zt2 hb.size
  replace Zt3 := Nat.le_trans Zt3 hb.size
  replace Zt4 := Nat.le_trans Zt4 hb.size
  replace Zt8 := Nat.le_trans Zt8 hb.size
  replace Zt9 := Nat.le_trans Zt9 hb.size
  clear hb
  go_wp2_with fail
  go_ret
  exact ⟨rfl, kw⟩
end Go.Proofs.Ythjlpgaoemdmkaa
