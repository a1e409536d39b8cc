
/- The walks of power, l01Pow, root, l01Order, l01Primitive, l01Unity: powers modulo the prime. The walks of l01Order, l01Primitive, l01Unity. The walks of rootPower, l10Gauss, gauss. The walks of ElementValue, MetricGauss of both sides. The walks of AddElements, NegateElement, PairElements, of both sides. The walks of OrderOfElement, of both sides. -/
import Derived.Test.YtonehmjoolflfaaGreatDoorSa
import Derived.Test.YtonehmjoolflfaaGreatDoorBa
import Derived.WalkLawsBesides
import Derived.Test.YtonehmjoolflfaaGreatDoorIa
import Derived.Test.YtonehmjoolflfaaGreatDoorEa
import Derived.Test.YtonehmjoolflfaaGreatDoorOo
namespace Go.Proofs.YtonehmjoolflfaaGreatDoor
open Go Go.RowKit Grp
set_option linter.unusedSimpArgs false
set_option linter.unusedVariables false

/-- A power modulo the prime. -/
def pwr (a k : Nat) : Nat := a ^ k % 55441
theorem pwr_lt (a k : Nat) : pwr a k < 55441 := Nat.mod_lt _ (by decide)
theorem pow_split (a k : Nat) : a ^ k = a ^ (k % 2) * (a * a) ^ (k / 2) := by
  have h : a ^ k = a ^ (k % 2 + 2 * (k / 2)) := by congr 1; omega
  rw [h, Nat.pow_add, Nat.pow_mul, Nat.pow_two]
theorem pwr_step0 {p a k : Nat} (h : k % 2 ≠ 1) : (p * (a * a % 55441) ^ (k / 2)) % 55441 = (p * a ^ k) % 55441 := by
  rw [pow_split a k, show k % 2 = 0 by omega, Nat.pow_zero, Nat.one_mul, Nat.mul_mod, ← Nat.pow_mod, ← Nat.mul_mod]
theorem pwr_step1 {p a k : Nat} (h : k % 2 = 1) : (p * a % 55441 * (a * a % 55441) ^ (k / 2)) % 55441 = (p * a ^ k) % 55441 := by
  rw [pow_split a k, h, Nat.pow_one, ← Nat.mul_assoc, Nat.mul_mod, ← Nat.pow_mod, Nat.mod_mod, ← Nat.mul_mod]

set_option maxHeartbeats 1000000 in
theorem power_any (w : World) (a k : Nat) (ha : a < 55441) (hk : k ≤ 1000000000) : Calls Tryz.prog 102 #[.int .i64 a, .int .i64 k] w (Qt w (.int .i64 (pwr a k))) := by
  go_enter Tryz.func102, Tryz.ntmps102
  go_wp2_with fail
  go_loop [0, 1, 5] (fun b j p => ∃ (b' j' p' : Nat), b = .int .i64 b' ∧ j = .int .i64 j' ∧ p = .int .i64 p' ∧ b' < 55441 ∧ p' < 55441 ∧ j' ≤ 1000000000 ∧ (p' * b' ^ j') % 55441 = pwr a k) (fun _ j _ => (intOf j).toNat)
  case atStart => exact ⟨a, k, 1, rfl, rfl, rfl, ha, by omega, hk, by rw [Nat.one_mul]; rfl⟩
  case round =>
    obtain ⟨b, j, p, rfl, rfl, rfl, hb, hp, hj, hpre⟩ := hrel
    have hP := hide hpre
    clear hpre
    by_cases hlt : 0 < j
    · have e1 : b * b ≤ 55440 * 55440 := Nat.mul_le_mul (by omega) (by omega)
      have e2 : p * b ≤ 55440 * 55440 := Nat.mul_le_mul (by omega) (by omega)
      have t1 : IntKind.i64.wrap ((b : Int) * b) = ((b * b : Nat) : Int) := by rw [← Int.natCast_mul]; exact wrap_in (by omega) (by omega)
      have t2 : IntKind.i64.wrap ((p : Int) * b) = ((p * b : Nat) : Int) := by rw [← Int.natCast_mul]; exact wrap_in (by omega) (by omega)
      obtain ⟨bb, hbb⟩ : ∃ x, b * b = x := ⟨_, rfl⟩
      obtain ⟨pb, hpb⟩ : ∃ x, p * b = x := ⟨_, rfl⟩
      rw [hbb] at t1 e1
      rw [hpb] at t2 e2
      have hBB := hide hbb
      have hPB := hide hpb
      clear hbb hpb
      have t3 : IntKind.i64.wrap ((j : Int) / 2) = (j : Int) / 2 := wrap_in (by omega) (by omega)
      by_cases h2 : j % 2 = 1
      · have h2b : ((j : Int) % 2 == 1) = true := by rw [beq_iff_eq]; omega
        have hS := hide (pwr_step1 (p := p) (a := b) h2)
        clear h2
        go_wp2_with fail
        go_round
        case rel => exact ⟨bb % 55441, j / 2, pb % 55441, int_eq (by omega), int_eq (by omega), int_eq (by omega), by omega, by omega, by omega, by rw [← hBB.out, ← hPB.out, hS.out, hP.out]⟩
        case measure => simp [intOf] <;> omega
      · have h2b : ((j : Int) % 2 == 1) = false := by rw [beq_eq_false_iff_ne]; omega
        have hS := hide (pwr_step0 (p := p) (a := b) h2)
        clear h2
        go_wp2_with fail
        go_round
        case rel => exact ⟨bb % 55441, j / 2, p, int_eq (by omega), int_eq (by omega), rfl, by omega, by omega, by omega, by rw [← hBB.out, hS.out, hP.out]⟩
        case measure => simp [intOf] <;> omega
    · obtain rfl : j = 0 := by omega
      go_wp2_with fail
      go_ret
      exact Qt.mk' 0 rfl (int_eq (by have := hP.out; rw [Nat.pow_zero, Nat.mul_one, Nat.mod_eq_of_lt hp] at this; rw [this]))
/-- The root of unity of an order n. -/
def rtu (n : Nat) : Nat := pwr 38 (55440 / n)
theorem root_any (w : World) (n : Nat) (h1 : 1 ≤ n) (h2 : n ≤ 55440) : Calls Tryz.prog 103 #[.int .i64 n] w (Qt w (.int .i64 (rtu n))) := by
  have hd : 55440 / n ≤ 55440 := Nat.div_le_self _ _
  have t0 : ¬ (n : Int) = 0 := by omega
  obtain ⟨q, hq⟩ : ∃ q, 55440 / n = q := ⟨_, rfl⟩
  have t1 : (55440 : Int).tdiv n = q := by rw [Int.tdiv_eq_ediv_of_nonneg (by omega), ← hq]; rfl
  have t1' : (55440 : Int) / n = q := by rw [← hq]; rfl
  rw [hq] at hd
  have t2 : IntKind.i64.wrap (q : Int) = q := wrap_in (by omega) (by omega)
  have hQ := hide (show rtu n = pwr 38 q by unfold rtu; rw [hq])
  clear hq
  go_enter Tryz.func103, Tryz.ntmps103
  go_wp2_with fail
  refine (power_any _ 38 q (by omega) (by omega)).mono ?_
  rintro e w' ⟨rfl, m, rfl⟩
  go_wp2_with fail
  go_ret
  exact Qt.mk' _ rfl (int_eq (by rw [hQ.out]))

/-- The five primes. -/
def pr5 : List Nat := [2, 3, 5, 7, 11]

def p5 (k : Nat) : Nat := pr5.getD k 0

/-- The power of the root of unity of an order D with an exponent. -/
def rp (D : Nat) (k : Int) : Nat := pwr (rtu D) (k % D).toNat
theorem rp_lt (D : Nat) (k : Int) : rp D k < 55441 := pwr_lt _ _
set_option maxHeartbeats 1000000 in
theorem rootPower_any (w : World) (A : Option Addr) (n c : Nat) (D : Nat) (A' : Option Addr) (n' c' : Nat) (k : Int) (h1 : 1 ≤ D) (h2 : D ≤ 55440) :
    Calls Tryz.prog 72 #[.agg #[.slice A n c, .int .i64 D, .slice A' n' c'], .int .i64 k] w (Re w (.int .i64 (rp D k))) := by
  have hk0 := em (x := k) (m := D) (by omega)
  obtain ⟨q, hq⟩ : ∃ q : Nat, k % (D : Int) = q := ⟨(k % (D : Int)).toNat, by omega⟩
  have hR := hide (show rp D k = pwr (rtu D) q by unfold rp; rw [hq]; rfl)
  have hq2 : q ≤ 55440 := by omega
  clear hk0
  go_enter Tryz.func72, Tryz.ntmps72
  go_wp2
  obtain ⟨W, hW⟩ : ∃ W, w.alloc (.cells #[.slice A n c, .int .i64 D, .slice A' n' c'] 26) = W := ⟨_, rfl⟩
  have hbW : Below w.heap.size w W := by rw [← hW]; exact (by repeat (first | assumption | exact Below.refl _ _ | apply below_drewN | apply Below.drew | apply Below.alloc | apply Below.setCell | omega | (focus (simp; done)) | (focus (simp; omega))))
  have hszW : w.heap.size < W.heap.size := by rw [← hW]; simp
  have hsW := hide (show W.heap.size = w.heap.size + 1 by rw [← hW]; simp)
  have bM : Blk W w.heap.size 26 #[.slice A n c, .int .i64 D, .slice A' n' c'] := by rw [← hW]; exact Blk.new _ _ _
  have q0 : W.cell? ⟨w.heap.size, 0, none⟩ = some (.slice A n c) := by rw [← hW]; exact (Blk.new _ _ _).cell 0
  have q1 : W.cell? ⟨w.heap.size, 1, none⟩ = some (.int .i64 D) := by rw [← hW]; exact (Blk.new _ _ _).cell 1
  have q2 : W.cell? ⟨w.heap.size, 2, none⟩ = some (.slice A' n' c') := by rw [← hW]; exact (Blk.new _ _ _).cell 2
  rw [hW]
  clear hW
  refine wp_region_be [0, 1, 3, 4, 2, 5, 6, 7] 7 W.heap.size W (by kernel_rfl) (by kernel_rfl) (by kernel_rfl) (fun _ _ _ _ _ h => h) (Below.refl _ _) (fun wd hBe => ?_)
  repeat (first | (apply ord_tk rfl (by rfl) (by rfl) (by rfl); (focus (intro wx hSw; have r0 := (hSw.cell (p := ⟨w.heap.size, 0, none⟩) hszW).trans q0; have r1 := (hSw.cell (p := ⟨w.heap.size, 1, none⟩) hszW).trans q1; have r2 := (hSw.cell (p := ⟨w.heap.size, 2, none⟩) hszW).trans q2; go_simp; (try with_reducible rfl))); (try simp only [Act.put, List.setIfInBounds_toArray, List.set_cons_zero, List.set_cons_succ])) | (apply ord_skip rfl (by rfl) (by rfl) (fun _ => hBe); (try simp only [Act.put, List.setIfInBounds_toArray, List.set_cons_zero, List.set_cons_succ])))
  refine ord_do rfl (by rfl) (by rfl) (fun K hK => ?_)
  go_simp
  refine (((root_any _ D h1 h2).mono fun _ _ h => Qt.re h)).mono ?_
  rintro e wd' ⟨rfl, hwd⟩
  replace hBe := hBe.trans (hwd.mono hBe.size)
  clear hwd
  refine hK.out _ _ (fun _ => hBe) ?_
  (try simp only [Act.put, List.setIfInBounds_toArray, List.set_cons_zero, List.set_cons_succ])
  clear hK K
  repeat (first | (apply ord_tk rfl (by rfl) (by rfl) (by rfl); (focus (intro wx hSw; have r0 := (hSw.cell (p := ⟨w.heap.size, 0, none⟩) hszW).trans q0; have r1 := (hSw.cell (p := ⟨w.heap.size, 1, none⟩) hszW).trans q1; have r2 := (hSw.cell (p := ⟨w.heap.size, 2, none⟩) hszW).trans q2; go_simp; (try with_reducible rfl))); (try simp only [Act.put, List.setIfInBounds_toArray, List.set_cons_zero, List.set_cons_succ])) | (apply ord_skip rfl (by rfl) (by rfl) (fun _ => hBe); (try simp only [Act.put, List.setIfInBounds_toArray, List.set_cons_zero, List.set_cons_succ])))
  refine ord_do rfl (by rfl) (by rfl) (fun K hK => ?_)
  go_simp
  refine (rest_any _ _ _ _ _ (by omega) (by omega)).mono ?_
  rintro e wd' ⟨rfl, hwd⟩
  replace hBe := hBe.trans (hwd.mono hBe.size)
  clear hwd
  refine hK.out _ _ (fun _ => hBe) ?_
  (try simp only [Act.put, List.setIfInBounds_toArray, List.set_cons_zero, List.set_cons_succ])
  clear hK K
  rw [hq]
  repeat (first | (apply ord_tk rfl (by rfl) (by rfl) (by rfl); (focus (intro wx hSw; have r0 := (hSw.cell (p := ⟨w.heap.size, 0, none⟩) hszW).trans q0; have r1 := (hSw.cell (p := ⟨w.heap.size, 1, none⟩) hszW).trans q1; have r2 := (hSw.cell (p := ⟨w.heap.size, 2, none⟩) hszW).trans q2; go_simp; (try with_reducible rfl))); (try simp only [Act.put, List.setIfInBounds_toArray, List.set_cons_zero, List.set_cons_succ])) | (apply ord_skip rfl (by rfl) (by rfl) (fun _ => hBe); (try simp only [Act.put, List.setIfInBounds_toArray, List.set_cons_zero, List.set_cons_succ])))
  refine ord_do rfl (by rfl) (by rfl) (fun K hK => ?_)
  go_simp
  refine (((power_any _ (rtu D) q (pwr_lt _ _) (by omega)).mono fun _ _ h => Qt.re h)).mono ?_
  rintro e wd' ⟨rfl, hwd⟩
  replace hBe := hBe.trans (hwd.mono hBe.size)
  clear hwd
  refine hK.out _ _ (fun _ => hBe) ?_
  (try simp only [Act.put, List.setIfInBounds_toArray, List.set_cons_zero, List.set_cons_succ])
  clear hK K
  repeat (first | (apply ord_tk rfl (by rfl) (by rfl) (by rfl); (focus (intro wx hSw; have r0 := (hSw.cell (p := ⟨w.heap.size, 0, none⟩) hszW).trans q0; have r1 := (hSw.cell (p := ⟨w.heap.size, 1, none⟩) hszW).trans q1; have r2 := (hSw.cell (p := ⟨w.heap.size, 2, none⟩) hszW).trans q2; go_simp; (try with_reducible rfl))); (try simp only [Act.put, List.setIfInBounds_toArray, List.set_cons_zero, List.set_cons_succ])) | (apply ord_skip rfl (by rfl) (by rfl) (fun _ => hBe); (try simp only [Act.put, List.setIfInBounds_toArray, List.set_cons_zero, List.set_cons_succ])))
  refine ord_do rfl (by rfl) (by rfl) (fun K hK => ?_)
  go_simp
  refine hK.out _ _ (fun h => absurd h (by omega)) ?_
  (try simp only [Act.put, List.setIfInBounds_toArray, List.set_cons_zero, List.set_cons_succ])
  clear hK K
  refine ord_nil ?_
  go_wp2
  go_ret
  exact ⟨by rw [hR.out]; rfl, hbW.trans (hBe.mono (Nat.le_of_lt hszW))⟩

/-- The sum of the values, each power times a factor. -/
def gsum (D : Nat) (k : Int) (vs : List Int) : Nat := (vs.map fun v => rp D (v * k)).sum
theorem gsum_snoc (D : Nat) (k : Int) {vs : List Int} {j : Nat} (h : j < vs.length) : gsum D k (vs.take (j + 1)) = gsum D k (vs.take j) + rp D (gi vs j * k) := by
  unfold gsum; rw [take_gi h]; simp
theorem gsum_le (D : Nat) (k : Int) (vs : List Int) : gsum D k vs ≤ 55441 * vs.length := by
  induction vs with
  | nil => simp [gsum]
  | cons v vs ih =>
    have := rp_lt D (v * k)
    unfold gsum at *
    simp only [List.map_cons, List.sum_cons, List.length_cons]
    omega
theorem mul_bd {v k : Int} {B C : Int} (hv0 : -B ≤ v) (hv1 : v ≤ B) (hk0 : -C ≤ k) (hk1 : k ≤ C) (hB : 0 ≤ B) (hC : 0 ≤ C) : -(B * C) ≤ v * k ∧ v * k ≤ B * C := by
  have h1 : 0 ≤ (B - v) * (C + k) := Int.mul_nonneg (by omega) (by omega)
  have h2 : 0 ≤ (B + v) * (C - k) := Int.mul_nonneg (by omega) (by omega)
  have h3 : 0 ≤ (B - v) * (C - k) := Int.mul_nonneg (by omega) (by omega)
  have h4 : 0 ≤ (B + v) * (C + k) := Int.mul_nonneg (by omega) (by omega)
  simp only [Int.sub_mul, Int.add_mul, Int.mul_sub, Int.mul_add] at h1 h2 h3 h4
  have e1 : v * C = C * v := Int.mul_comm _ _
  omega
set_option maxHeartbeats 1000000 in
theorem gauss_any (w : World) (A : Option Addr) (n c : Nat) (D : Nat) (A' : Option Addr) (n' c' : Nat) (vs : List Int) (k : Int) (h1 : 1 ≤ D) (h2 : D ≤ 55440) (h' : Sl w w.heap.size A' n' c' vs) (hn : n' ≤ 1073741824)
    (hv : ∀ v ∈ vs, 0 ≤ v ∧ v < D) (hk0 : -100000 ≤ k) (hk1 : k ≤ 100000) :
    Calls Tryz.prog 33 #[.agg #[.slice A n c, .int .i64 D, .slice A' n' c'], .int .i64 k] w (Re w (.int .i64 ((gsum D k vs % 55441 : Nat) : Int))) := by
  obtain rfl := h'.len
  have hV := hide hv
  clear hv
  have hP := fun W z => rootPower_any W A n c D A' vs.length c' z h1 h2
  go_enter Tryz.func33, Tryz.ntmps33
  go_wp2_with fail
  obtain ⟨W, hW⟩ : ∃ W, w.alloc (.cells #[.slice A n c, .int .i64 D, .slice A' vs.length c'] 26) = W := ⟨_, rfl⟩
  have hbW : Below w.heap.size w W := by rw [← hW]; exact (by repeat (first | assumption | exact Below.refl _ _ | apply below_drewN | apply Below.drew | apply Below.alloc | apply Below.setCell | omega | (focus (simp; done)) | (focus (simp; omega))))
  have hszW : w.heap.size < W.heap.size := by rw [← hW]; simp
  have hsW := hide (show W.heap.size = w.heap.size + 1 by rw [← hW]; simp)
  have bM : Blk W w.heap.size 26 #[.slice A n c, .int .i64 D, .slice A' vs.length c'] := by rw [← hW]; exact Blk.new _ _ _
  have q0 : W.cell? ⟨w.heap.size, 0, none⟩ = some (.slice A n c) := by rw [← hW]; exact (Blk.new _ _ _).cell 0
  have q1 : W.cell? ⟨w.heap.size, 1, none⟩ = some (.int .i64 D) := by rw [← hW]; exact (Blk.new _ _ _).cell 1
  have q2 : W.cell? ⟨w.heap.size, 2, none⟩ = some (.slice A' vs.length c') := by rw [← hW]; exact (Blk.new _ _ _).cell 2
  rw [hW]
  clear hW
  go_wp2_with fail
  go_loopw [5, 11] (fun s i wr => ∃ j q : Nat, j ≤ vs.length ∧ i = .int .i64 j ∧ s = .int .i64 q ∧ q = gsum D k (vs.take j) ∧ Below W.heap.size W wr) (fun _ i _ => vs.length - (intOf i).toNat)
  case atStart => exact ⟨0, 0, by omega, rfl, rfl, rfl, Below.refl _ _⟩
  case round =>
    obtain ⟨j, q, hj, rfl, rfl, hq, hBe⟩ := hrel
    have hb := gsum_le D k (vs.take j)
    rw [← hq, List.length_take, Nat.min_eq_left hj] at hb
    have hQ := hide hq
    clear hq
    by_cases hlt : j < vs.length
    · obtain ⟨b, off, rfl, hb', hc⟩ := h'.at_ (by omega)
      have c1 := (hBe.cell (p := ⟨b, off + j, none⟩) (by show b < W.heap.size; omega)).trans ((hbW.cell (p := ⟨b, off + j, none⟩) hb').trans (hc j hlt))
      clear hc
      obtain ⟨v0, v1⟩ := hV.out _ (gi_mem hlt)
      obtain ⟨m0, m1⟩ := mul_bd (v := gi vs j) (k := k) (B := 55440) (C := 100000) (by omega) (by omega) hk0 hk1 (by omega) (by omega)
      have hS := hide (gsum_snoc D k hlt)
      obtain ⟨v, ev⟩ : ∃ v, gi vs j = v := ⟨_, rfl⟩
      rw [ev] at c1 v0 v1 m0 m1 hS
      clear ev
      obtain ⟨r, hr⟩ : ∃ r, rp D (v * k) = r := ⟨_, rfl⟩
      have hrl := rp_lt D (v * k)
      have hPv := fun W => hP W (v * k)
      rw [hr] at hrl hS hPv
      clear hr
      have t1 : IntKind.i64.wrap (v * k) = v * k := wrap_in (by omega) (by omega)
      have t2 : wrap64 (v * k) = v * k := by rw [← wrap_eq]; exact t1
      have r0 := (hBe.cell (p := ⟨w.heap.size, 0, none⟩) hszW).trans q0
      have r1 := (hBe.cell (p := ⟨w.heap.size, 1, none⟩) hszW).trans q1
      have r2 := (hBe.cell (p := ⟨w.heap.size, 2, none⟩) hszW).trans q2
      go_wp2_with fail
      clear r0 r1 r2
      refine (hPv _).mono ?_
      rintro e w2 ⟨rfl, hb2⟩
      have hBe2 := hBe.trans (hb2.mono hBe.size)
      go_wp2_with fail
      go_roundw
      case rel => exact ⟨j + 1, q + r, by omega, by go_num, int_eq (by omega), by rw [hS.out, hQ.out], hBe2⟩
      case measure => simp [intOf] <;> omega
    · obtain rfl : j = vs.length := by omega
      go_wp2_with fail
      go_ret
      exact ⟨by rw [show gsum D k vs = q by rw [hQ.out, List.take_length]]; rfl, hbW.trans (hBe.mono (Nat.le_of_lt hszW))⟩

noncomputable def codeG (os : List Int) (D : Int) (vs : List Int) (k : Int) : Int := if isM os D vs = true then if inB k (-100000) 100000 = true then 0 else 2 else 1
noncomputable def gaG (os : List Int) (D : Int) (vs : List Int) (k : Int) : Int := if codeG os D vs k = 0 then ((gsum D.toNat k vs % 55441 : Nat) : Int) else 0
set_option maxHeartbeats 1000000 in
theorem impl_Gauss_any (w : World) (A : Option Addr) (n c : Nat) (os : List Int) (D : Int) (A' : Option Addr) (n' c' : Nat) (vs : List Int) (k : Int) (h : Sl w w.heap.size A n c os) (h' : Sl w w.heap.size A' n' c' vs) (hn : n ≤ 1073741824) (hn' : n' ≤ 1073741824) :
    Calls Tryz.prog 14 #[.agg #[.slice A n c, .int .i64 D, .slice A' n' c'], .int .i64 k] w (Re2 w (gaG os D vs k) (codeG os D vs k)) := by
  obtain rfl := h'.len
  cases hm : isM os D vs with
  | false =>
    have hC := hide (show codeG os D vs k = 1 by unfold codeG; rw [hm]; rfl)
    have hGA := hide (show gaG os D vs k = 0 by unfold gaG; rw [if_neg (by rw [hC.out]; decide)])
    go_enter Tryz.func14, Tryz.ntmps14
    go_wp2_with fail
    obtain ⟨W, hW⟩ : ∃ W, w.alloc (.cells #[.slice A n c, .int .i64 D, .slice A' vs.length c'] 26) = W := ⟨_, rfl⟩
    have hbW : Below w.heap.size w W := by rw [← hW]; exact (by repeat (first | assumption | exact Below.refl _ _ | apply below_drewN | apply Below.drew | apply Below.alloc | apply Below.setCell | omega | (focus (simp; done)) | (focus (simp; omega))))
    have hszW : w.heap.size < W.heap.size := by rw [← hW]; simp
    have hsW := hide (show W.heap.size = w.heap.size + 1 by rw [← hW]; simp)
    have bM : Blk W w.heap.size 26 #[.slice A n c, .int .i64 D, .slice A' vs.length c'] := by rw [← hW]; exact Blk.new _ _ _
    have q0 : W.cell? ⟨w.heap.size, 0, none⟩ = some (.slice A n c) := by rw [← hW]; exact (Blk.new _ _ _).cell 0
    have q1 : W.cell? ⟨w.heap.size, 1, none⟩ = some (.int .i64 D) := by rw [← hW]; exact (Blk.new _ _ _).cell 1
    have q2 : W.cell? ⟨w.heap.size, 2, none⟩ = some (.slice A' vs.length c') := by rw [← hW]; exact (Blk.new _ _ _).cell 2
    rw [hW]
    clear hW
    have hs := (h.below hbW).more (Nat.le_of_lt hszW)
    have hs' := (h'.below hbW).more (Nat.le_of_lt hszW)
    go_wp2_with fail
    refine (implIs_v false _ _ _ _ _ _ _ _ _ _ hs hs' hn hn' hm).mono ?_
    rintro e w2 ⟨rfl, hb2⟩
    go_wp2_with fail
    refine bodyPost_ret (v := .tuple #[.int .i64 0, .int .i64 1]) (by simp [results, Tryz.results14, go_sem]) rfl ?_
    exact ⟨by rw [hC.out, hGA.out], hbW.trans (hb2.mono (Nat.le_of_lt hszW))⟩
  | true =>
    have hM := isM_iff.1 hm
    cases hi : inB k (-100000) 100000 with
    | false =>
      have hC := hide (show codeG os D vs k = 2 by unfold codeG; rw [hm, hi]; rfl)
      have hGA := hide (show gaG os D vs k = 0 by unfold gaG; rw [if_neg (by rw [hC.out]; decide)])
      go_enter Tryz.func14, Tryz.ntmps14
      go_wp2_with fail
      obtain ⟨W, hW⟩ : ∃ W, w.alloc (.cells #[.slice A n c, .int .i64 D, .slice A' vs.length c'] 26) = W := ⟨_, rfl⟩
      have hbW : Below w.heap.size w W := by rw [← hW]; exact (by repeat (first | assumption | exact Below.refl _ _ | apply below_drewN | apply Below.drew | apply Below.alloc | apply Below.setCell | omega | (focus (simp; done)) | (focus (simp; omega))))
      have hszW : w.heap.size < W.heap.size := by rw [← hW]; simp
      have hsW := hide (show W.heap.size = w.heap.size + 1 by rw [← hW]; simp)
      have bM : Blk W w.heap.size 26 #[.slice A n c, .int .i64 D, .slice A' vs.length c'] := by rw [← hW]; exact Blk.new _ _ _
      have q0 : W.cell? ⟨w.heap.size, 0, none⟩ = some (.slice A n c) := by rw [← hW]; exact (Blk.new _ _ _).cell 0
      have q1 : W.cell? ⟨w.heap.size, 1, none⟩ = some (.int .i64 D) := by rw [← hW]; exact (Blk.new _ _ _).cell 1
      have q2 : W.cell? ⟨w.heap.size, 2, none⟩ = some (.slice A' vs.length c') := by rw [← hW]; exact (Blk.new _ _ _).cell 2
      rw [hW]
      clear hW
      have hs := (h.below hbW).more (Nat.le_of_lt hszW)
      have hs' := (h'.below hbW).more (Nat.le_of_lt hszW)
      go_wp2_with fail
      refine (implIs_v true _ _ _ _ _ _ _ _ _ _ hs hs' hn hn' hm).mono ?_
      rintro e w2 ⟨rfl, hb2⟩
      go_wp2_with fail
      refine (within_v false _ _ _ _ hi).mono ?_
      rintro e w3 ⟨rfl, dm, rfl⟩
      go_wp2_with fail
      refine bodyPost_ret (v := .tuple #[.int .i64 0, .int .i64 2]) (by simp [results, Tryz.results14, go_sem]) rfl ?_
      exact ⟨by rw [hC.out, hGA.out], below_drewN (hbW.trans (hb2.mono (Nat.le_of_lt hszW))) _⟩
    | true =>
      have hC := hide (show codeG os D vs k = 0 by unfold codeG; rw [hm, hi]; rfl)
      have hGA := hide (show gaG os D vs k = ((gsum D.toNat k vs % 55441 : Nat) : Int) by unfold gaG; rw [if_pos hC.out])
      have hk01 : -100000 ≤ k ∧ k ≤ 100000 := by simpa [inB] using hi
      have hd1 := hM.ok.d1
      have hd2 := hM.ok.d2
      have hrg := hide hM.ok.rng
      obtain ⟨D, rfl⟩ : ∃ m : Nat, D = (m : Int) := ⟨D.toNat, by omega⟩
      obtain ⟨g, hg⟩ : ∃ g, gsum D k vs % 55441 = g := ⟨_, rfl⟩
      rw [show (D : Int).toNat = D from rfl, hg] at hGA
      go_enter Tryz.func14, Tryz.ntmps14
      go_wp2_with fail
      obtain ⟨W, hW⟩ : ∃ W, w.alloc (.cells #[.slice A n c, .int .i64 D, .slice A' vs.length c'] 26) = W := ⟨_, rfl⟩
      have hbW : Below w.heap.size w W := by rw [← hW]; exact (by repeat (first | assumption | exact Below.refl _ _ | apply below_drewN | apply Below.drew | apply Below.alloc | apply Below.setCell | omega | (focus (simp; done)) | (focus (simp; omega))))
      have hszW : w.heap.size < W.heap.size := by rw [← hW]; simp
      have hsW := hide (show W.heap.size = w.heap.size + 1 by rw [← hW]; simp)
      have bM : Blk W w.heap.size 26 #[.slice A n c, .int .i64 D, .slice A' vs.length c'] := by rw [← hW]; exact Blk.new _ _ _
      have q0 : W.cell? ⟨w.heap.size, 0, none⟩ = some (.slice A n c) := by rw [← hW]; exact (Blk.new _ _ _).cell 0
      have q1 : W.cell? ⟨w.heap.size, 1, none⟩ = some (.int .i64 D) := by rw [← hW]; exact (Blk.new _ _ _).cell 1
      have q2 : W.cell? ⟨w.heap.size, 2, none⟩ = some (.slice A' vs.length c') := by rw [← hW]; exact (Blk.new _ _ _).cell 2
      rw [hW]
      clear hW
      have hs := (h.below hbW).more (Nat.le_of_lt hszW)
      have hs' := (h'.below hbW).more (Nat.le_of_lt hszW)
      go_wp2_with fail
      refine (implIs_v true _ _ _ _ _ _ _ _ _ _ hs hs' hn hn' hm).mono ?_
      rintro e w2 ⟨rfl, hb2⟩
      go_wp2_with fail
      refine (within_v true _ _ _ _ hi).mono ?_
      rintro e w3 ⟨rfl, dm, rfl⟩
      have k3 : Below W.heap.size W (w2.drewN dm) := below_drewN hb2 _
      have r0 := (k3.cell (p := ⟨w.heap.size, 0, none⟩) hszW).trans q0
      have r1 := (k3.cell (p := ⟨w.heap.size, 1, none⟩) hszW).trans q1
      have r2 := (k3.cell (p := ⟨w.heap.size, 2, none⟩) hszW).trans q2
      go_wp2_with fail
      clear r0 r1 r2
      refine (gauss_any _ _ _ _ _ _ _ _ _ _ (by omega) (by omega) ((hs'.below k3).more k3.size) (by omega) hrg.out hk01.1 hk01.2).mono ?_
      rw [hg]
      rintro e w4 ⟨rfl, hb4⟩
      have k4 := k3.trans (hb4.mono k3.size)
      go_wp2_with fail
      refine bodyPost_ret (v := .tuple #[.int .i64 g, .int .i64 0]) (by simp [results, Tryz.results14, go_sem]) rfl ?_
      exact ⟨by rw [hC.out, hGA.out], hbW.trans (k4.mono (Nat.le_of_lt hszW))⟩

set_option maxHeartbeats 1000000 in
theorem impl_Ord_any (w : World) (A : Option Addr) (n c : Nat) (os : List Int) (D : Int) (A' : Option Addr) (n' c' : Nat) (vs : List Int) (x : Int) (hx : i64ok x) (h : Sl w w.heap.size A n c os) (h' : Sl w w.heap.size A' n' c' vs) (hn : n ≤ 1073741824) (hn' : n' ≤ 1073741824) :
    Calls Tryz.prog 11 #[.agg #[.slice A n c, .int .i64 D, .slice A' n' c'], .int .i64 x] w (Re2 w (if codeE os D vs [x] = 0 then ((ordN os x : Nat) : Int) else 0) (codeE os D vs [x])) := by
  obtain rfl := h'.len
  have hcode := fun W A n c A' n' c' LL l lc => elementCode_any W A n c os D A' n' c' vs LL l lc [x]
  obtain ⟨k, hk⟩ : ∃ k, codeE os D vs [x] = k := ⟨_, rfl⟩
  have h0 : k = 0 → IsM os D vs ∧ allIn 0 (prodL os - 1) [x] = true := fun e => codeE_0 (hk.trans e)
  rw [hk] at hcode ⊢
  clear hk
  by_cases hk0 : k = 0
  · subst hk0
    obtain ⟨hM, hin⟩ := h0 rfl
    clear h0
    rw [if_pos rfl]
    have hG := hM.ok.g
    have hp16 := hG.p16
    have hxr : 0 ≤ x ∧ x ≤ prodL os - 1 := allIn_gi hin (k := 0) (by simp)
    have hin' := hide hin
    clear hin
    go_enter Tryz.func11, Tryz.ntmps11
    go_wp2_with fail
    obtain ⟨W, hW⟩ : ∃ W, w.alloc (.cells #[.slice A n c, .int .i64 D, .slice A' vs.length c'] 26) = W := ⟨_, rfl⟩
    have hbW : Below w.heap.size w W := by rw [← hW]; exact (by repeat (first | assumption | exact Below.refl _ _ | apply below_drewN | apply Below.drew | apply Below.alloc | apply Below.setCell | omega | (focus (simp; done)) | (focus (simp; omega))))
    have hszW : w.heap.size < W.heap.size := by rw [← hW]; simp
    have hsW := hide (show W.heap.size = w.heap.size + 1 by rw [← hW]; simp)
    have bM : Blk W w.heap.size 26 #[.slice A n c, .int .i64 D, .slice A' vs.length c'] := by rw [← hW]; exact Blk.new _ _ _
    have q0 : W.cell? ⟨w.heap.size, 0, none⟩ = some (.slice A n c) := by rw [← hW]; exact (Blk.new _ _ _).cell 0
    have q1 : W.cell? ⟨w.heap.size, 1, none⟩ = some (.int .i64 D) := by rw [← hW]; exact (Blk.new _ _ _).cell 1
    have q2 : W.cell? ⟨w.heap.size, 2, none⟩ = some (.slice A' vs.length c') := by rw [← hW]; exact (Blk.new _ _ _).cell 2
    rw [hW]
    clear hW
    have hs := (h.below hbW).more (Nat.le_of_lt hszW)
    have hs' := (h'.below hbW).more (Nat.le_of_lt hszW)
    have hsl : ∀ wd, Below W.heap.size W wd → Sl wd wd.heap.size A n c os := fun wd h => (hs.below h).more h.size
    have hsv : ∀ wd, Below W.heap.size W wd → Sl wd wd.heap.size A' vs.length c' vs := fun wd h => (hs'.below h).more h.size
    refine (hcode _ _ _ _ _ _ _ _ _ _ (hsl _ ((Below.refl _ _).alloc (Nat.le_refl _) _)) (hsv _ ((Below.refl _ _).alloc (Nat.le_refl _) _)) (sl_one _ _ hsW.out _ hx) hn hn' (by omega)).mono ?_
    rintro e w2 ⟨rfl, hb2⟩
    have k2 := ((Below.refl W.heap.size W).alloc (Nat.le_refl _) _).trans (hb2.mono (by simp))
    have r0 := (k2.cell (p := ⟨w.heap.size, 0, none⟩) hszW).trans q0
    have r1 := (k2.cell (p := ⟨w.heap.size, 1, none⟩) hszW).trans q1
    have r2 := (k2.cell (p := ⟨w.heap.size, 2, none⟩) hszW).trans q2
    go_wp2_with fail
    refine (orderOf_any _ _ _ _ _ _ _ _ _ _ (hsl _ k2) hG (by omega) (by omega)).mono ?_
    rintro e w3 ⟨rfl, hb3⟩
    have k3 := k2.trans (hb3.mono k2.size)
    go_wp2
    refine bodyPost_ret (v := .tuple #[.int .i64 ((ordN os x : Nat) : Int), .int .i64 0]) (by simp [results, Tryz.results11, go_sem]) rfl ?_
    exact ⟨rfl, hbW.trans (k3.mono (Nat.le_of_lt hszW))⟩
  · clear h0
    rw [if_neg hk0]
    have hkb : (k != 0) = true := by simpa using hk0
    go_enter Tryz.func11, Tryz.ntmps11
    go_wp2_with fail
    obtain ⟨W, hW⟩ : ∃ W, w.alloc (.cells #[.slice A n c, .int .i64 D, .slice A' vs.length c'] 26) = W := ⟨_, rfl⟩
    have hbW : Below w.heap.size w W := by rw [← hW]; exact (by repeat (first | assumption | exact Below.refl _ _ | apply below_drewN | apply Below.drew | apply Below.alloc | apply Below.setCell | omega | (focus (simp; done)) | (focus (simp; omega))))
    have hszW : w.heap.size < W.heap.size := by rw [← hW]; simp
    have hsW := hide (show W.heap.size = w.heap.size + 1 by rw [← hW]; simp)
    have bM : Blk W w.heap.size 26 #[.slice A n c, .int .i64 D, .slice A' vs.length c'] := by rw [← hW]; exact Blk.new _ _ _
    have q0 : W.cell? ⟨w.heap.size, 0, none⟩ = some (.slice A n c) := by rw [← hW]; exact (Blk.new _ _ _).cell 0
    have q1 : W.cell? ⟨w.heap.size, 1, none⟩ = some (.int .i64 D) := by rw [← hW]; exact (Blk.new _ _ _).cell 1
    have q2 : W.cell? ⟨w.heap.size, 2, none⟩ = some (.slice A' vs.length c') := by rw [← hW]; exact (Blk.new _ _ _).cell 2
    rw [hW]
    clear hW
    have hs := (h.below hbW).more (Nat.le_of_lt hszW)
    have hs' := (h'.below hbW).more (Nat.le_of_lt hszW)
    have hsl : ∀ wd, Below W.heap.size W wd → Sl wd wd.heap.size A n c os := fun wd h => (hs.below h).more h.size
    have hsv : ∀ wd, Below W.heap.size W wd → Sl wd wd.heap.size A' vs.length c' vs := fun wd h => (hs'.below h).more h.size
    refine (hcode _ _ _ _ _ _ _ _ _ _ (hsl _ ((Below.refl _ _).alloc (Nat.le_refl _) _)) (hsv _ ((Below.refl _ _).alloc (Nat.le_refl _) _)) (sl_one _ _ hsW.out _ hx) hn hn' (by omega)).mono ?_
    rintro e w2 ⟨rfl, hb2⟩
    have k2 := ((Below.refl W.heap.size W).alloc (Nat.le_refl _) _).trans (hb2.mono (by simp))
    go_wp2_with fail
    refine bodyPost_ret (v := .tuple #[.int .i64 0, .int .i64 k]) (by simp [results, Tryz.results11, go_sem]) rfl ?_
    exact ⟨rfl, hbW.trans (k2.mono (Nat.le_of_lt hszW))⟩
end Go.Proofs.YtonehmjoolflfaaGreatDoor
