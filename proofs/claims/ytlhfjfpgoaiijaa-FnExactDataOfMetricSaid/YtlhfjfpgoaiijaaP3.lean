
/- The walks of rootPower, l10Gauss, gauss. -/
import Derived.Test.YtlhfjfpgoaiijaaP2
import Derived.Test.YtlhfjfpgoaiijaaIa
import Derived.WalkLawsBesides
namespace Go.Proofs.Ytlhfjfpgoaiijaa
open Go Go.RowKit Grp
set_option linter.unusedSimpArgs false
set_option linter.unusedVariables false

/-- The power of the root of unity of an order D with an exponent. -/
def rp (D : Nat) (k : Int) : Nat := pwr (rtu D) (k % D).toNat
theorem rp_lt (D : Nat) (k : Int) : rp D k < 55441 := pwr_lt _ _
theorem rp_mod (D : Nat) (k : Int) : rp D (k % D) = rp D k := by unfold rp; rw [Int.emod_emod_of_dvd _ (Int.dvd_refl _)]
set_option maxHeartbeats 1000000 in
theorem rootPower_any (w : World) (A : Option Addr) (n c : Nat) (D : Nat) (A' : Option Addr) (n' c' : Nat) (k : Int) (h1 : 1 ≤ D) (h2 : D ≤ 55440) :
    Calls Try.prog 46 #[.agg #[.slice A n c, .int .i64 D, .slice A' n' c'], .int .i64 k] w (Re w (.int .i64 (rp D k))) := by
  have hk0 := em (x := k) (m := D) (by omega)
  obtain ⟨q, hq⟩ : ∃ q : Nat, k % (D : Int) = q := ⟨(k % (D : Int)).toNat, by omega⟩
  have hR := hide (show rp D k = pwr (rtu D) q by unfold rp; rw [hq]; rfl)
  have hq2 : q ≤ 55440 := by omega
  clear hk0
  go_enter Try.func46, Try.ntmps46
  go_wp2
  obtain ⟨W, hW⟩ : ∃ W, w.alloc (.cells #[.slice A n c, .int .i64 D, .slice A' n' c'] 31) = W := ⟨_, rfl⟩
  have hbW : Below w.heap.size w W := by rw [← hW]; exact (by repeat (first | assumption | exact Below.refl _ _ | apply below_drewN | apply Below.drew | apply Below.alloc | apply Below.setCell | omega | (focus (simp; done)) | (focus (simp; omega))))
  have hszW : w.heap.size < W.heap.size := by rw [← hW]; simp
  have hsW := hide (show W.heap.size = w.heap.size + 1 by rw [← hW]; simp)
  have bM : Blk W w.heap.size 31 #[.slice A n c, .int .i64 D, .slice A' n' c'] := by rw [← hW]; exact Blk.new _ _ _
  have q0 : W.cell? ⟨w.heap.size, 0, none⟩ = some (.slice A n c) := by rw [← hW]; exact (Blk.new _ _ _).cell 0
  have q1 : W.cell? ⟨w.heap.size, 1, none⟩ = some (.int .i64 D) := by rw [← hW]; exact (Blk.new _ _ _).cell 1
  have q2 : W.cell? ⟨w.heap.size, 2, none⟩ = some (.slice A' n' c') := by rw [← hW]; exact (Blk.new _ _ _).cell 2
  rw [hW]
  clear hW
  refine wp_region_be [0, 1, 3, 4, 2, 5, 6, 7] 7 W.heap.size W (by kernel_rfl) (by kernel_rfl) (by kernel_rfl) (fun _ _ _ _ _ h => h) (Below.refl _ _) (fun wd hBe => ?_)
  repeat (first | (apply ord_tk rfl (by rfl) (by rfl) (by rfl); (focus (intro wx hSw; have r0 := (hSw.cell (p := ⟨w.heap.size, 0, none⟩) hszW).trans q0; have r1 := (hSw.cell (p := ⟨w.heap.size, 1, none⟩) hszW).trans q1; have r2 := (hSw.cell (p := ⟨w.heap.size, 2, none⟩) hszW).trans q2; go_simp; (try with_reducible rfl))); (try simp only [Act.put, List.setIfInBounds_toArray, List.set_cons_zero, List.set_cons_succ])) | (apply ord_skip rfl (by rfl) (by rfl) (fun _ => hBe); (try simp only [Act.put, List.setIfInBounds_toArray, List.set_cons_zero, List.set_cons_succ])))
  refine ord_do rfl (by rfl) (by rfl) (fun K hK => ?_)
  go_simp
  refine (((root_any _ D h1 h2).mono fun _ _ h => Qt.re h)).mono ?_
  rintro e wd' ⟨rfl, hwd⟩
  replace hBe := hBe.trans (hwd.mono hBe.size)
  clear hwd
  refine hK.out _ _ (fun _ => hBe) ?_
  (try simp only [Act.put, List.setIfInBounds_toArray, List.set_cons_zero, List.set_cons_succ])
  clear hK K
  repeat (first | (apply ord_tk rfl (by rfl) (by rfl) (by rfl); (focus (intro wx hSw; have r0 := (hSw.cell (p := ⟨w.heap.size, 0, none⟩) hszW).trans q0; have r1 := (hSw.cell (p := ⟨w.heap.size, 1, none⟩) hszW).trans q1; have r2 := (hSw.cell (p := ⟨w.heap.size, 2, none⟩) hszW).trans q2; go_simp; (try with_reducible rfl))); (try simp only [Act.put, List.setIfInBounds_toArray, List.set_cons_zero, List.set_cons_succ])) | (apply ord_skip rfl (by rfl) (by rfl) (fun _ => hBe); (try simp only [Act.put, List.setIfInBounds_toArray, List.set_cons_zero, List.set_cons_succ])))
  refine ord_do rfl (by rfl) (by rfl) (fun K hK => ?_)
  go_simp
  refine (rest_any _ _ _ _ _ (by omega) (by omega)).mono ?_
  rintro e wd' ⟨rfl, hwd⟩
  replace hBe := hBe.trans (hwd.mono hBe.size)
  clear hwd
  refine hK.out _ _ (fun _ => hBe) ?_
  (try simp only [Act.put, List.setIfInBounds_toArray, List.set_cons_zero, List.set_cons_succ])
  clear hK K
  rw [hq]
  repeat (first | (apply ord_tk rfl (by rfl) (by rfl) (by rfl); (focus (intro wx hSw; have r0 := (hSw.cell (p := ⟨w.heap.size, 0, none⟩) hszW).trans q0; have r1 := (hSw.cell (p := ⟨w.heap.size, 1, none⟩) hszW).trans q1; have r2 := (hSw.cell (p := ⟨w.heap.size, 2, none⟩) hszW).trans q2; go_simp; (try with_reducible rfl))); (try simp only [Act.put, List.setIfInBounds_toArray, List.set_cons_zero, List.set_cons_succ])) | (apply ord_skip rfl (by rfl) (by rfl) (fun _ => hBe); (try simp only [Act.put, List.setIfInBounds_toArray, List.set_cons_zero, List.set_cons_succ])))
  refine ord_do rfl (by rfl) (by rfl) (fun K hK => ?_)
  go_simp
  refine (((power_any _ (rtu D) q (pwr_lt _ _) (by omega)).mono fun _ _ h => Qt.re h)).mono ?_
  rintro e wd' ⟨rfl, hwd⟩
  replace hBe := hBe.trans (hwd.mono hBe.size)
  clear hwd
  refine hK.out _ _ (fun _ => hBe) ?_
  (try simp only [Act.put, List.setIfInBounds_toArray, List.set_cons_zero, List.set_cons_succ])
  clear hK K
  repeat (first | (apply ord_tk rfl (by rfl) (by rfl) (by rfl); (focus (intro wx hSw; have r0 := (hSw.cell (p := ⟨w.heap.size, 0, none⟩) hszW).trans q0; have r1 := (hSw.cell (p := ⟨w.heap.size, 1, none⟩) hszW).trans q1; have r2 := (hSw.cell (p := ⟨w.heap.size, 2, none⟩) hszW).trans q2; go_simp; (try with_reducible rfl))); (try simp only [Act.put, List.setIfInBounds_toArray, List.set_cons_zero, List.set_cons_succ])) | (apply ord_skip rfl (by rfl) (by rfl) (fun _ => hBe); (try simp only [Act.put, List.setIfInBounds_toArray, List.set_cons_zero, List.set_cons_succ])))
  refine ord_do rfl (by rfl) (by rfl) (fun K hK => ?_)
  go_simp
  refine hK.out _ _ (fun h => absurd h (by omega)) ?_
  (try simp only [Act.put, List.setIfInBounds_toArray, List.set_cons_zero, List.set_cons_succ])
  clear hK K
  refine ord_nil ?_
  go_wp2
  go_ret
  exact ⟨by rw [hR.out]; rfl, hbW.trans (hBe.mono (Nat.le_of_lt hszW))⟩

/-- The sum of the values, each power times a factor. -/
def gsum (D : Nat) (k : Int) (vs : List Int) : Nat := (vs.map fun v => rp D (v * k)).sum
theorem gsum_snoc (D : Nat) (k : Int) {vs : List Int} {j : Nat} (h : j < vs.length) : gsum D k (vs.take (j + 1)) = gsum D k (vs.take j) + rp D (gi vs j * k) := by
  unfold gsum; rw [take_gi h]; simp
theorem gsum_le (D : Nat) (k : Int) (vs : List Int) : gsum D k vs ≤ 55441 * vs.length := by
  induction vs with
  | nil => simp [gsum]
  | cons v vs ih =>
    have := rp_lt D (v * k)
    unfold gsum at *
    simp only [List.map_cons, List.sum_cons, List.length_cons]
    omega
theorem mul_bd {v k : Int} {B C : Int} (hv0 : -B ≤ v) (hv1 : v ≤ B) (hk0 : -C ≤ k) (hk1 : k ≤ C) (hB : 0 ≤ B) (hC : 0 ≤ C) : -(B * C) ≤ v * k ∧ v * k ≤ B * C := by
  have h1 : 0 ≤ (B - v) * (C + k) := Int.mul_nonneg (by omega) (by omega)
  have h2 : 0 ≤ (B + v) * (C - k) := Int.mul_nonneg (by omega) (by omega)
  have h3 : 0 ≤ (B - v) * (C - k) := Int.mul_nonneg (by omega) (by omega)
  have h4 : 0 ≤ (B + v) * (C + k) := Int.mul_nonneg (by omega) (by omega)
  simp only [Int.sub_mul, Int.add_mul, Int.mul_sub, Int.mul_add] at h1 h2 h3 h4
  have e1 : v * C = C * v := Int.mul_comm _ _
  omega
theorem tmod_emod_mul (v k : Int) (D : Int) (hD : 1 ≤ D) : (v * k.tmod D) % D = (v * k) % D := by
  rw [Int.tmod_def, Int.mul_sub, ← Int.mul_assoc, Int.mul_comm v D, Int.mul_assoc, Int.sub_mul_emod_self_left]
end Go.Proofs.Ytlhfjfpgoaiijaa
