
/- The walks of rootPower, l10Gauss, gauss. -/
import Derived.Test.YtnoemhmmaicakaaP2
import Derived.Test.YtnoemhmmaicakaaIa
import Derived.WalkLawsBesides
namespace Go.Proofs.Ytnoemhmmaicakaa
open Go Go.RowKit Grp
set_option linter.unusedSimpArgs false
set_option linter.unusedVariables false

/-- The power of the root of unity of an order D with an exponent. -/
def rp (D : Nat) (k : Int) : Nat := pwr (rtu D) (k % D).toNat
theorem rp_lt (D : Nat) (k : Int) : rp D k < 55441 := pwr_lt _ _
theorem rp_mod (D : Nat) (k : Int) : rp D (k % D) = rp D k := by unfold rp; rw [Int.emod_emod_of_dvd _ (Int.dvd_refl _)]
set_option maxHeartbeats 1000000 in
theorem rootPower_any (w : World) (A : Option Addr) (n c : Nat) (D : Nat) (A' : Option Addr) (n' c' : Nat) (k : Int) (h1 : 1 ≤ D) (h2 : D ≤ 55440) :
    Calls Try.prog 62 #[.agg #[.slice A n c, .int .i64 D, .slice A' n' c'], .int .i64 k] w (Re w (.int .i64 (rp D k))) := by
  have hk0 := em (x := k) (m := D) (by omega)
  obtain ⟨q, hq⟩ : ∃ q : Nat, k % (D : Int) = q := ⟨(k % (D : Int)).toNat, by omega⟩
  have hR := hide (show rp D k = pwr (rtu D) q by unfold rp; rw [hq]; rfl)
  have hq2 : q ≤ 55440 := by omega
  clear hk0
  go_enter Try.func62, Try.ntmps62
  go_wp2
  obtain ⟨W, hW⟩ : ∃ W, w.alloc (.cells #[.slice A n c, .int .i64 D, .slice A' n' c'] 26) = W := ⟨_, rfl⟩
  have hbW : Below w.heap.size w W := by rw [← hW]; exact (by repeat (first | assumption | exact Below.refl _ _ | apply below_drewN | apply Below.drew | apply Below.alloc | apply Below.setCell | omega | (focus (simp; done)) | (focus (simp; omega))))
  have hszW : w.heap.size < W.heap.size := by rw [← hW]; simp
  have hsW := hide (show W.heap.size = w.heap.size + 1 by rw [← hW]; simp)
  have bM : Blk W w.heap.size 26 #[.slice A n c, .int .i64 D, .slice A' n' c'] := by rw [← hW]; exact Blk.new _ _ _
  have q0 : W.cell? ⟨w.heap.size, 0, none⟩ = some (.slice A n c) := by rw [← hW]; exact (Blk.new _ _ _).cell 0
  have q1 : W.cell? ⟨w.heap.size, 1, none⟩ = some (.int .i64 D) := by rw [← hW]; exact (Blk.new _ _ _).cell 1
  have q2 : W.cell? ⟨w.heap.size, 2, none⟩ = some (.slice A' n' c') := by rw [← hW]; exact (Blk.new _ _ _).cell 2
  rw [hW]
  clear hW
  refine wp_region_be [0, 1, 3, 4, 2, 5, 6, 7] 7 W.heap.size W (by kernel_rfl) (by kernel_rfl) (by kernel_rfl) (fun _ _ _ _ _ h => h) (Below.refl _ _) (fun wd hBe => ?_)
  repeat (first | (apply ord_tk rfl (by rfl) (by rfl) (by rfl); (focus (intro wx hSw; have r0 := (hSw.cell (p := ⟨w.heap.size, 0, none⟩) hszW).trans q0; have r1 := (hSw.cell (p := ⟨w.heap.size, 1, none⟩) hszW).trans q1; have r2 := (hSw.cell (p := ⟨w.heap.size, 2, none⟩) hszW).trans q2; go_simp; (try with_reducible rfl))); (try simp only [Act.put, List.setIfInBounds_toArray, List.set_cons_zero, List.set_cons_succ])) | (apply ord_skip rfl (by rfl) (by rfl) (fun _ => hBe); (try simp only [Act.put, List.setIfInBounds_toArray, List.set_cons_zero, List.set_cons_succ])))
  refine ord_do rfl (by rfl) (by rfl) (fun K hK => ?_)
  go_simp
  refine (((root_any _ D h1 h2).mono fun _ _ h => Qt.re h)).mono ?_
  rintro e wd' ⟨rfl, hwd⟩
  replace hBe := hBe.trans (hwd.mono hBe.size)
  clear hwd
  refine hK.out _ _ (fun _ => hBe) ?_
  (try simp only [Act.put, List.setIfInBounds_toArray, List.set_cons_zero, List.set_cons_succ])
  clear hK K
  repeat (first | (apply ord_tk rfl (by rfl) (by rfl) (by rfl); (focus (intro wx hSw; have r0 := (hSw.cell (p := ⟨w.heap.size, 0, none⟩) hszW).trans q0; have r1 := (hSw.cell (p := ⟨w.heap.size, 1, none⟩) hszW).trans q1; have r2 := (hSw.cell (p := ⟨w.heap.size, 2, none⟩) hszW).trans q2; go_simp; (try with_reducible rfl))); (try simp only [Act.put, List.setIfInBounds_toArray, List.set_cons_zero, List.set_cons_succ])) | (apply ord_skip rfl (by rfl) (by rfl) (fun _ => hBe); (try simp only [Act.put, List.setIfInBounds_toArray, List.set_cons_zero, List.set_cons_succ])))
  refine ord_do rfl (by rfl) (by rfl) (fun K hK => ?_)
  go_simp
  refine (rest_any _ _ _ _ _ (by omega) (by omega)).mono ?_
  rintro e wd' ⟨rfl, hwd⟩
  replace hBe := hBe.trans (hwd.mono hBe.size)
  clear hwd
  refine hK.out _ _ (fun _ => hBe) ?_
  (try simp only [Act.put, List.setIfInBounds_toArray, List.set_cons_zero, List.set_cons_succ])
  clear hK K
  rw [hq]
  repeat (first | (apply ord_tk rfl (by rfl) (by rfl) (by rfl); (focus (intro wx hSw; have r0 := (hSw.cell (p := ⟨w.heap.size, 0, none⟩) hszW).trans q0; have r1 := (hSw.cell (p := ⟨w.heap.size, 1, none⟩) hszW).trans q1; have r2 := (hSw.cell (p := ⟨w.heap.size, 2, none⟩) hszW).trans q2; go_simp; (try with_reducible rfl))); (try simp only [Act.put, List.setIfInBounds_toArray, List.set_cons_zero, List.set_cons_succ])) | (apply ord_skip rfl (by rfl) (by rfl) (fun _ => hBe); (try simp only [Act.put, List.setIfInBounds_toArray, List.set_cons_zero, List.set_cons_succ])))
  refine ord_do rfl (by rfl) (by rfl) (fun K hK => ?_)
  go_simp
  refine (((power_any _ (rtu D) q (pwr_lt _ _) (by omega)).mono fun _ _ h => Qt.re h)).mono ?_
  rintro e wd' ⟨rfl, hwd⟩
  replace hBe := hBe.trans (hwd.mono hBe.size)
  clear hwd
  refine hK.out _ _ (fun _ => hBe) ?_
  (try simp only [Act.put, List.setIfInBounds_toArray, List.set_cons_zero, List.set_cons_succ])
  clear hK K
  repeat (first | (apply ord_tk rfl (by rfl) (by rfl) (by rfl); (focus (intro wx hSw; have r0 := (hSw.cell (p := ⟨w.heap.size, 0, none⟩) hszW).trans q0; have r1 := (hSw.cell (p := ⟨w.heap.size, 1, none⟩) hszW).trans q1; have r2 := (hSw.cell (p := ⟨w.heap.size, 2, none⟩) hszW).trans q2; go_simp; (try with_reducible rfl))); (try simp only [Act.put, List.setIfInBounds_toArray, List.set_cons_zero, List.set_cons_succ])) | (apply ord_skip rfl (by rfl) (by rfl) (fun _ => hBe); (try simp only [Act.put, List.setIfInBounds_toArray, List.set_cons_zero, List.set_cons_succ])))
  refine ord_do rfl (by rfl) (by rfl) (fun K hK => ?_)
  go_simp
  refine hK.out _ _ (fun h => absurd h (by omega)) ?_
  (try simp only [Act.put, List.setIfInBounds_toArray, List.set_cons_zero, List.set_cons_succ])
  clear hK K
  refine ord_nil ?_
  go_wp2
  go_ret
  exact ⟨by rw [hR.out]; rfl, hbW.trans (hBe.mono (Nat.le_of_lt hszW))⟩

/-- The sum of the values, each power times a factor. -/
def gsum (D : Nat) (k : Int) (vs : List Int) : Nat := (vs.map fun v => rp D (v * k)).sum
theorem gsum_snoc (D : Nat) (k : Int) {vs : List Int} {j : Nat} (h : j < vs.length) : gsum D k (vs.take (j + 1)) = gsum D k (vs.take j) + rp D (gi vs j * k) := by
  unfold gsum; rw [take_gi h]; simp
theorem gsum_le (D : Nat) (k : Int) (vs : List Int) : gsum D k vs ≤ 55441 * vs.length := by
  induction vs with
  | nil => simp [gsum]
  | cons v vs ih =>
    have := rp_lt D (v * k)
    unfold gsum at *
    simp only [List.map_cons, List.sum_cons, List.length_cons]
    omega
theorem mul_bd {v k : Int} {B C : Int} (hv0 : -B ≤ v) (hv1 : v ≤ B) (hk0 : -C ≤ k) (hk1 : k ≤ C) (hB : 0 ≤ B) (hC : 0 ≤ C) : -(B * C) ≤ v * k ∧ v * k ≤ B * C := by
  have h1 : 0 ≤ (B - v) * (C + k) := Int.mul_nonneg (by omega) (by omega)
  have h2 : 0 ≤ (B + v) * (C - k) := Int.mul_nonneg (by omega) (by omega)
  have h3 : 0 ≤ (B - v) * (C - k) := Int.mul_nonneg (by omega) (by omega)
  have h4 : 0 ≤ (B + v) * (C + k) := Int.mul_nonneg (by omega) (by omega)
  simp only [Int.sub_mul, Int.add_mul, Int.mul_sub, Int.mul_add] at h1 h2 h3 h4
  have e1 : v * C = C * v := Int.mul_comm _ _
  omega
set_option maxHeartbeats 1000000 in
theorem gauss_any (w : World) (A : Option Addr) (n c : Nat) (D : Nat) (A' : Option Addr) (n' c' : Nat) (vs : List Int) (k : Int) (h1 : 1 ≤ D) (h2 : D ≤ 55440) (h' : Sl w w.heap.size A' n' c' vs) (hn : n' ≤ 1048576)
    (hv : ∀ v ∈ vs, 0 ≤ v ∧ v < D) (hk0 : -100000 ≤ k) (hk1 : k ≤ 100000) :
    Calls Try.prog 67 #[.agg #[.slice A n c, .int .i64 D, .slice A' n' c'], .int .i64 k] w (Re w (.int .i64 ((gsum D k vs % 55441 : Nat) : Int))) := by
  obtain rfl := h'.len
  have hV := hide hv
  clear hv
  have hP := fun W z => rootPower_any W A n c D A' vs.length c' z h1 h2
  go_enter Try.func67, Try.ntmps67
  go_wp2_with fail
  obtain ⟨W, hW⟩ : ∃ W, w.alloc (.cells #[.slice A n c, .int .i64 D, .slice A' vs.length c'] 26) = W := ⟨_, rfl⟩
  have hbW : Below w.heap.size w W := by rw [← hW]; exact (by repeat (first | assumption | exact Below.refl _ _ | apply below_drewN | apply Below.drew | apply Below.alloc | apply Below.setCell | omega | (focus (simp; done)) | (focus (simp; omega))))
  have hszW : w.heap.size < W.heap.size := by rw [← hW]; simp
  have hsW := hide (show W.heap.size = w.heap.size + 1 by rw [← hW]; simp)
  have bM : Blk W w.heap.size 26 #[.slice A n c, .int .i64 D, .slice A' vs.length c'] := by rw [← hW]; exact Blk.new _ _ _
  have q0 : W.cell? ⟨w.heap.size, 0, none⟩ = some (.slice A n c) := by rw [← hW]; exact (Blk.new _ _ _).cell 0
  have q1 : W.cell? ⟨w.heap.size, 1, none⟩ = some (.int .i64 D) := by rw [← hW]; exact (Blk.new _ _ _).cell 1
  have q2 : W.cell? ⟨w.heap.size, 2, none⟩ = some (.slice A' vs.length c') := by rw [← hW]; exact (Blk.new _ _ _).cell 2
  rw [hW]
  clear hW
  go_wp2_with fail
  go_loopw [5, 11] (fun s i wr => ∃ j q : Nat, j ≤ vs.length ∧ i = .int .i64 j ∧ s = .int .i64 q ∧ q = gsum D k (vs.take j) ∧ Below W.heap.size W wr) (fun _ i _ => vs.length - (intOf i).toNat)
  case atStart => exact ⟨0, 0, by omega, rfl, rfl, rfl, Below.refl _ _⟩
  case round =>
    obtain ⟨j, q, hj, rfl, rfl, hq, hBe⟩ := hrel
    have hb := gsum_le D k (vs.take j)
    rw [← hq, List.length_take, Nat.min_eq_left hj] at hb
    have hQ := hide hq
    clear hq
    by_cases hlt : j < vs.length
    · obtain ⟨b, off, rfl, hb', hc⟩ := h'.at_ (by omega)
      have c1 := (hBe.cell (p := ⟨b, off + j, none⟩) (by show b < W.heap.size; omega)).trans ((hbW.cell (p := ⟨b, off + j, none⟩) hb').trans (hc j hlt))
      clear hc
      obtain ⟨v0, v1⟩ := hV.out _ (gi_mem hlt)
      obtain ⟨m0, m1⟩ := mul_bd (v := gi vs j) (k := k) (B := 55440) (C := 100000) (by omega) (by omega) hk0 hk1 (by omega) (by omega)
      have hS := hide (gsum_snoc D k hlt)
      obtain ⟨v, ev⟩ : ∃ v, gi vs j = v := ⟨_, rfl⟩
      rw [ev] at c1 v0 v1 m0 m1 hS
      clear ev
      obtain ⟨r, hr⟩ : ∃ r, rp D (v * k) = r := ⟨_, rfl⟩
      have hrl := rp_lt D (v * k)
      have hPv := fun W => hP W (v * k)
      rw [hr] at hrl hS hPv
      clear hr
      have t1 : IntKind.i64.wrap (v * k) = v * k := wrap_in (by omega) (by omega)
      have t2 : wrap64 (v * k) = v * k := by rw [← wrap_eq]; exact t1
      have r0 := (hBe.cell (p := ⟨w.heap.size, 0, none⟩) hszW).trans q0
      have r1 := (hBe.cell (p := ⟨w.heap.size, 1, none⟩) hszW).trans q1
      have r2 := (hBe.cell (p := ⟨w.heap.size, 2, none⟩) hszW).trans q2
      go_wp2_with fail
      clear r0 r1 r2
      refine (hPv _).mono ?_
      rintro e w2 ⟨rfl, hb2⟩
      have hBe2 := hBe.trans (hb2.mono hBe.size)
      go_wp2_with fail
      go_roundw
      case rel => exact ⟨j + 1, q + r, by omega, by go_num, int_eq (by omega), by rw [hS.out, hQ.out], hBe2⟩
      case measure => simp [intOf] <;> omega
    · obtain rfl : j = vs.length := by omega
      go_wp2_with fail
      go_ret
      exact ⟨by rw [show gsum D k vs = q by rw [hQ.out, List.take_length]]; rfl, hbW.trans (hBe.mono (Nat.le_of_lt hszW))⟩
theorem tmod_emod_mul (v k : Int) (D : Int) (hD : 1 ≤ D) : (v * k.tmod D) % D = (v * k) % D := by
  rw [Int.tmod_def, Int.mul_sub, ← Int.mul_assoc, Int.mul_comm v D, Int.mul_assoc, Int.sub_mul_emod_self_left]
set_option maxHeartbeats 1000000 in
theorem l10Gauss_any (w : World) (B : Nat) (D : Nat) (A' : Option Addr) (n' c' : Nat) (vs : List Int) (k : Int) (h1 : 1 ≤ D) (h2 : D ≤ 55440) (h' : Sl w B A' n' c' vs) (hB : B ≤ w.heap.size) (hn : n' ≤ 1048576)
    (hv : ∀ v ∈ vs, 0 ≤ v ∧ v < D) :
    Calls Try.prog 69 #[.int .i64 D, .slice A' n' c', .int .i64 k] w (Re w (.int .i64 ((gsum D k vs % 55441 : Nat) : Int))) := by
  obtain rfl := h'.len
  have hV := hide hv
  clear hv
  have hkt : -(D : Int) < k.tmod D ∧ k.tmod D < D := ⟨Int.lt_tmod_of_pos k (by omega), Int.tmod_lt_of_pos k (by omega)⟩
  have t0 : ¬ (D : Int) = 0 := by omega
  have t0n : ¬ D = 0 := by omega
  go_enter Try.func69, Try.ntmps69
  go_wp2_with fail
  refine (l01Unity_any _ D h1 h2).mono ?_
  rintro e w2 ⟨rfl, hb2⟩
  have hR := hide (show rtu D < 55441 from pwr_lt _ _)
  go_wp2_with fail
  go_loopw [8, 9] (fun s i wr => ∃ j q : Nat, j ≤ vs.length ∧ i = .int .i64 j ∧ s = .int .i64 q ∧ q = gsum D k (vs.take j) % 55441 ∧ Below w.heap.size w wr) (fun _ i _ => vs.length - (intOf i).toNat)
  case atStart => exact ⟨0, 0, by omega, rfl, rfl, rfl, hb2⟩
  case round =>
    clear hb2
    obtain ⟨j, q, hj, rfl, rfl, hq, hBe⟩ := hrel
    have hb : q < 55441 := by rw [hq]; exact Nat.mod_lt _ (by omega)
    have hQ := hide hq
    clear hq
    by_cases hlt : j < vs.length
    · obtain ⟨b, off, rfl, hb', hc⟩ := h'.at_ (by omega)
      have hbw : b < w.heap.size := by omega
      have c1 := hc j hlt
      clear hc
      obtain ⟨v0, v1⟩ := hV.out _ (gi_mem hlt)
      have hS := hide (gsum_snoc D k hlt)
      obtain ⟨v, ev⟩ : ∃ v, gi vs j = v := ⟨_, rfl⟩
      rw [ev] at c1 v0 v1 hS
      clear ev
      have hE := rest_eq (v * k.tmod D) D (by omega)
      rw [tmod_emod_mul v k D (by omega)] at hE
      obtain ⟨kt, hkt'⟩ : ∃ kt, k.tmod (D : Int) = kt := ⟨_, rfl⟩
      have hkt2 := hkt
      rw [hkt'] at hE hkt2
      obtain ⟨m0, m1⟩ := mul_bd (v := v) (k := kt) (B := 55440) (C := 55440) (by omega) (by omega) (by omega) (by omega) (by omega) (by omega)
      have t1 : IntKind.i64.wrap (v * kt) = v * kt := wrap_in (by omega) (by omega)
      have t5 : IntKind.i64.wrap ((v * kt).tmod D + D) = (v * kt).tmod D + D := by
        refine wrap_in ?_ ?_
        · have := Int.lt_tmod_of_pos (v * kt) (show 0 < (D : Int) by omega); omega
        · have := Int.tmod_lt_of_pos (v * kt) (show 0 < (D : Int) by omega); omega
      obtain ⟨e, he⟩ : ∃ e : Nat, (v * k) % (D : Int) = e := ⟨((v * k) % (D : Int)).toNat, by have := em (x := v * k) (m := D) (by omega); omega⟩
      have he2 : e < 55441 := by have := em (x := v * k) (m := D) (by omega); omega
      have hr : rp D (v * k) = pwr (rtu D) e := by unfold rp; rw [he]; rfl
      rw [he] at hE
      obtain ⟨r, hr2⟩ : ∃ r, pwr (rtu D) e = r := ⟨_, rfl⟩
      have hrl := pwr_lt (rtu D) e
      have hPv := fun W => l01Pow_any W (rtu D) e hR.out (by omega)
      rw [hr2] at hrl hPv
      have hSR := hide (show gsum D k (vs.take (j + 1)) = gsum D k (vs.take j) + r by rw [hS.out, hr, hr2])
      clear he hr hr2 hS
      have i0 : 0 ≤ (j : Int) := by omega
      have i1 : (j : Int) < (vs.length : Int) := by omega
      have c2 := (hBe.cell (p := ⟨b, off + j, none⟩) hbw).trans c1
      go_wp2
      refine wp_region_be [0, 1, 2, 3, 4, 5, 6, 7, 8, 9, 10, 11, 12, 13, 14] 14 w.heap.size w (by kernel_rfl) (by kernel_rfl) (by kernel_rfl) (fun _ _ _ _ _ h => h) hBe (fun wd hBe => ?_)
      repeat (first | (apply ord_tk rfl (by rfl) (by rfl) (by rfl); (focus (intro wx hSw; have c3 := (hSw.cell (p := ⟨b, off + j, none⟩) hbw).trans c1; go_simp; (try with_reducible rfl))); (try simp only [Act.put, List.setIfInBounds_toArray, List.set_cons_zero, List.set_cons_succ])) | (apply ord_skip rfl (by rfl) (by rfl) (fun _ => hBe); (try simp only [Act.put, List.setIfInBounds_toArray, List.set_cons_zero, List.set_cons_succ])))
      refine ord_do rfl (by rfl) (by rfl) (fun K hK => ?_)
      go_simp
      refine hK.out _ _ (fun h => absurd h (by omega)) ?_
      (try simp only [Act.put, List.setIfInBounds_toArray, List.set_cons_zero, List.set_cons_succ])
      clear hK K
      refine ord_nil ?_
      go_wp2_with fail
      refine (hPv _).mono ?_
      rintro e w3 ⟨rfl, m, rfl⟩
      go_wp2_with fail
      go_roundw
      case rel => exact ⟨j + 1, (q + r) % 55441, by omega, by go_num, int_eq (by omega), by rw [hSR.out, hQ.out, Nat.mod_add_mod], below_drewN hBe _⟩
      case measure => simp [intOf] <;> omega
    · obtain rfl : j = vs.length := by omega
      go_wp2_with fail
      go_ret
      exact ⟨by rw [show gsum D k vs % 55441 = q by rw [hQ.out, List.take_length]]; rfl, hBe⟩
end Go.Proofs.Ytnoemhmmaicakaa
