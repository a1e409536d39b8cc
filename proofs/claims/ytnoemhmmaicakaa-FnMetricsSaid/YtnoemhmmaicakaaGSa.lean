
/- The sum of metrics told plainly: its elements are pairs of elements, it is a metric, its Gauss sum is the product. No program is walked here. The sum of metrics is a metric, told plainly. -/
import Derived.Test.YtnoemhmmaicakaaX2
import Derived.Test.YtnoemhmmaicakaaCma
namespace Go.Proofs.Ytnoemhmmaicakaa
open Go Go.RowKit Grp
set_option linter.unusedSimpArgs false
set_option linter.unusedVariables false

theorem mod_mul_mod {x m P : Int} (hm : 1 ≤ m) (hP : 1 ≤ P) : (x % (m * P)) % m = x % m ∧ (x % (m * P)) / m = (x / m) % P ∧ x / (m * P) = x / m / P := by
  have h1 := Int.emod_add_mul_ediv x m
  have h2 := Int.emod_add_mul_ediv (x / m) P
  obtain ⟨a0, a1⟩ := em (x := x) hm
  obtain ⟨b0, b1⟩ := em (x := x / m) hP
  have e : x = (x % m + m * ((x / m) % P)) + (m * P) * (x / m / P) := by
    rw [Int.mul_assoc, Int.add_assoc, ← Int.mul_add, h2, h1]
  have hr0 : 0 ≤ x % m + m * ((x / m) % P) := by have := Int.mul_nonneg (show 0 ≤ m by omega) b0; omega
  have hr1 : x % m + m * ((x / m) % P) < m * P := lt_of_digit a1 b1 hm
  have hmP : 1 ≤ m * P := by have : 1 * 1 ≤ m * P := Int.mul_le_mul hm hP (by omega) (by omega); omega
  obtain ⟨d1, d2⟩ := dm (x / m / P) hr0 hr1
  rw [← e] at d1 d2
  obtain ⟨f1, f2⟩ := dm ((x / m) % P) a0 a1
  refine ⟨?_, ?_, d2⟩
  · rw [d1]; exact f1
  · rw [d1]; exact f2
theorem addR_app {r s : List Int} (hr : Pos r) : ∀ x y, addR (r ++ s) x y = addR r (x % prodL r) (y % prodL r) + prodL r * addR s (x / prodL r) (y / prodL r) := by
  induction r with
  | nil => intro x y; simp [addR, prodL]
  | cons m r ih =>
    intro x y
    have hm := hr.head
    have hP := prodL_pos hr.tail
    obtain ⟨a1, a2, a3⟩ := mod_mul_mod (x := x) hm hP
    obtain ⟨b1, b2, b3⟩ := mod_mul_mod (x := y) hm hP
    show (x % m + y % m) % m + m * addR (r ++ s) (x / m) (y / m) = _
    rw [ih hr.tail]
    simp only [addR, prodL]
    rw [a1, a2, a3, b1, b2, b3, Int.mul_add, Int.mul_assoc]
    omega
theorem negR_app {r s : List Int} (hr : Pos r) : ∀ x, negR (r ++ s) x = negR r (x % prodL r) + prodL r * negR s (x / prodL r) := by
  induction r with
  | nil => intro x; simp [negR, prodL]
  | cons m r ih =>
    intro x
    have hm := hr.head
    have hP := prodL_pos hr.tail
    obtain ⟨a1, a2, a3⟩ := mod_mul_mod (x := x) hm hP
    show (m - x % m) % m + m * negR (r ++ s) (x / m) = _
    rw [ih hr.tail]
    simp only [negR, prodL]
    rw [a1, a2, a3, Int.mul_add, Int.mul_assoc]
    omega
theorem Ar_app {os1 os2 : List Int} (h2 : OkG os2) (x y : Int) : Ar (os1 ++ os2) x y = Ar os2 (x % prodL os2) (y % prodL os2) + prodL os2 * Ar os1 (x / prodL os2) (y / prodL os2) := by
  unfold Ar
  rw [List.reverse_append, addR_app h2.posR, prodL_reverse]
theorem Ng_app {os1 os2 : List Int} (h2 : OkG os2) (x : Int) : Ng (os1 ++ os2) x = Ng os2 (x % prodL os2) + prodL os2 * Ng os1 (x / prodL os2) := by
  unfold Ng
  rw [List.reverse_append, negR_app h2.posR, prodL_reverse]
theorem gi_map {f : Int → Int} {xs : List Int} {k : Nat} (h : k < xs.length) : gi (xs.map f) k = f (gi xs k) := by
  unfold gi; simp [List.getD_eq_getElem?_getD, h]
theorem gi_sumL (D e1 e2 : Nat) {vs2 : List Int} : ∀ {vs1 : List Int} {a b : Nat}, a < vs1.length → b < vs2.length → gi (sumL D e1 e2 vs1 vs2) (a * vs2.length + b) = (gi vs1 a * e1 + gi vs2 b * e2) % (D : Int) := by
  intro vs1
  induction vs1 with
  | nil => intro a b h; simp at h
  | cons v vs ih =>
    intro a b ha hb
    show gi (sumR D e1 e2 v vs2 ++ sumL D e1 e2 vs vs2) _ = _
    cases a with
    | zero =>
      have : gi (sumR D e1 e2 v vs2 ++ sumL D e1 e2 vs vs2) (0 * vs2.length + b) = gi (sumR D e1 e2 v vs2) b := by
        unfold gi; simp [List.getD_eq_getElem?_getD, List.getElem?_append, sumR_len, hb]
      rw [this]
      unfold sumR
      rw [gi_map hb]; rfl
    | succ a =>
      have : gi (sumR D e1 e2 v vs2 ++ sumL D e1 e2 vs vs2) ((a + 1) * vs2.length + b) = gi (sumL D e1 e2 vs vs2) (a * vs2.length + b) := by
        unfold gi
        rw [List.getD_eq_getElem?_getD, List.getD_eq_getElem?_getD, List.getElem?_append_right (by rw [sumR_len, Nat.succ_mul]; omega), sumR_len]
        congr 2
        rw [Nat.succ_mul]; omega
      rw [this, ih (by simpa using ha) hb]
      rfl
theorem SumQ.dvd {D1 D2 q e D e1 e2 : Nat} (hQ : SumQ D1 D2 q e D e1 e2) (h1 : 1 ≤ D1) (h2 : 1 ≤ D2) : D1 * e1 = D ∧ D2 * e2 = D ∧ (D1 ∣ 55440 → D2 ∣ 55440 → D ∣ 55440) := by
  have e : D = Nat.lcm D1 D2 := by
    rw [← hQ.mul, ← hQ.div, ← hQ.gcd]
    unfold Nat.lcm
    rw [Nat.mul_comm D1 D2, Nat.mul_div_assoc _ (Nat.gcd_dvd_left D1 D2), Nat.mul_comm]
  refine ⟨?_, ?_, fun a b => e ▸ Nat.lcm_dvd a b⟩
  · rw [← hQ.d1, e]; exact Nat.mul_div_cancel' (Nat.dvd_lcm_left D1 D2)
  · rw [← hQ.d2, e]; exact Nat.mul_div_cancel' (Nat.dvd_lcm_right D1 D2)
theorem rp_lift {D D1 e1 : Nat} (h : D1 * e1 = D) (hd : D ∣ 55440) (h1 : 1 ≤ D1) (he : 1 ≤ e1) (t : Int) : rp D (t * e1) = rp D1 t := by
  have hr : rtu D1 = pwr (rtu D) e1 := by
    unfold rtu
    rw [pwr_pwr]
    congr 1
    obtain ⟨c, hc⟩ := hd
    have hD : 0 < D := by rw [← h]; exact Nat.mul_pos h1 he
    rw [hc, Nat.mul_div_cancel_left _ hD, ← h, Nat.mul_assoc, Nat.mul_div_cancel_left _ h1, Nat.mul_comm]
  unfold rp
  rw [hr, pwr_pwr]
  congr 1
  have hm : (t * (e1 : Int)) % (D : Int) = (t % (D1 : Int)) * e1 := by
    rw [← h, Int.natCast_mul, Int.mul_comm t, Int.mul_comm (D1 : Int), Int.mul_emod_mul_of_pos _ _ (by omega), Int.mul_comm]
  have h0 := Int.emod_nonneg t (show (D1 : Int) ≠ 0 by omega)
  rw [hm]
  obtain ⟨n, hn⟩ := Int.eq_ofNat_of_zero_le h0
  rw [hn, ← Int.natCast_mul, Int.toNat_natCast, Int.toNat_natCast, Nat.mul_comm]
/-- The Gauss sum of a sum is the product of both. -/
theorem gauss_sum {D1 D2 q e D e1 e2 : Nat} (hQ : SumQ D1 D2 q e D e1 e2) (h1 : 1 ≤ D1) (h2 : 1 ≤ D2) (d1 : D1 ∣ 55440) (d2 : D2 ∣ 55440) (k : Int) (vs1 vs2 : List Int) :
    Cg ((gsum D k (sumL D e1 e2 vs1 vs2) : Nat) : Int) (((gsum D1 k vs1 : Nat) : Int) * ((gsum D2 k vs2 : Nat) : Int)) := by
  obtain ⟨m1, m2, m3⟩ := hQ.dvd h1 h2
  have hd := m3 d1 d2
  have hD := hQ.b1
  have p1 : 1 ≤ e1 := by
    rcases Nat.eq_zero_or_pos e1 with h | h
    · rw [h, Nat.mul_zero] at m1; omega
    · exact h
  have p2 : 1 ≤ e2 := by
    rcases Nat.eq_zero_or_pos e2 with h | h
    · rw [h, Nat.mul_zero] at m2; omega
    · exact h
  have one : ∀ a b : Int, Cg (rp D ((a * e1 + b * e2) % (D : Int) * k) : Int) ((rp D1 (a * k) : Int) * (rp D2 (b * k) : Int)) := by
    intro a b
    have e0 : rp D ((a * e1 + b * e2) % (D : Int) * k) = rp D (a * k * e1 + b * k * e2) := by
      refine rp_cg ?_
      rw [Int.mul_emod, Int.emod_emod_of_dvd _ (Int.dvd_refl _), ← Int.mul_emod, Int.add_mul, Int.mul_right_comm a, Int.mul_right_comm b]
    rw [e0, ← rp_lift m1 hd h1 p1 (a * k), ← rp_lift m2 hd h2 p2 (b * k)]
    exact rp_addC hD hd _ _
  have row : ∀ a : Int, ∀ us : List Int, Cg ((gsum D k (sumR D e1 e2 a us) : Nat) : Int) ((rp D1 (a * k) : Int) * ((gsum D2 k us : Nat) : Int)) := by
    intro a us
    induction us with
    | nil => simp [gsum, sumR]; exact Cg.rfl' _
    | cons u us ih =>
      have e1' : gsum D k (sumR D e1 e2 a (u :: us)) = rp D ((a * e1 + u * e2) % (D : Int) * k) + gsum D k (sumR D e1 e2 a us) := by simp [gsum, sumR]
      have e2' : gsum D2 k (u :: us) = rp D2 (u * k) + gsum D2 k us := by simp [gsum]
      rw [e1', e2', Int.natCast_add, Int.natCast_add, Int.mul_add]
      exact (one a u).add ih
  induction vs1 with
  | nil => simp [gsum, sumL]; exact Cg.rfl' _
  | cons v vs ih =>
    have e1' : gsum D k (sumL D e1 e2 (v :: vs) vs2) = gsum D k (sumR D e1 e2 v vs2) + gsum D k (sumL D e1 e2 vs vs2) := by simp [gsum, sumL]
    have e2' : gsum D1 k (v :: vs) = rp D1 (v * k) + gsum D1 k vs := by simp [gsum]
    rw [e1', e2', Int.natCast_add, Int.natCast_add, Int.add_mul]
    exact (row v vs2).add ih

section
variable {os1 os2 vs1 vs2 : List Int} {D1 D2 q e D e1 e2 : Nat}
theorem emul {D1 e1 D : Nat} (h : D1 * e1 = D) (he : 1 ≤ e1) (A : Int) : (A * e1) % (D : Int) = (A % (D1 : Int)) * e1 := by
  rw [← h, Int.natCast_mul, Int.mul_comm A, Int.mul_comm (D1 : Int), Int.mul_emod_mul_of_pos _ _ (by omega), Int.mul_comm]
theorem two_mod (a b c d D : Int) (h1 : a % D = c % D) (h2 : b % D = d % D) : (a + b) % D = (c + d) % D := by rw [Int.add_emod, h1, h2, ← Int.add_emod]
theorem sub3 (a b c D : Int) : ((a % D) - (b % D) - (c % D)) % D = (a - b - c) % D := by
  have h1 : ((a % D) - (b % D)) % D = (a - b) % D := (Int.sub_emod a b D).symm
  rw [Int.sub_emod (a % D - b % D), h1, Int.emod_emod_of_dvd _ (Int.dvd_refl D), ← Int.sub_emod]
theorem nonz {D1 e1 D : Nat} (h : D1 * e1 = D) (hD : 1 ≤ D) : 1 ≤ e1 := by
  rcases Nat.eq_zero_or_pos e1 with h' | h'
  · rw [h', Nat.mul_zero] at h; omega
  · exact h'
theorem Vl_sum (h1 : OkM os1 D1 vs1) (h2 : OkM os2 D2 vs2) {x : Int} (x0 : 0 ≤ x) (x1 : x < prodL os1 * prodL os2) :
    Vl (sumL D e1 e2 vs1 vs2) x = (Vl vs1 (x / prodL os2) * e1 + Vl vs2 (x % prodL os2) * e2) % (D : Int) := by
  have hp := h2.g.ge
  have l1 := h1.len
  have l2 := h2.len
  obtain ⟨n, rfl⟩ := Int.eq_ofNat_of_zero_le x0
  have a0 := Int.ediv_nonneg x0 (show 0 ≤ prodL os2 by omega)
  have a1 : (n : Int) / prodL os2 < prodL os1 := Int.ediv_lt_of_lt_mul (by omega) x1
  have b0 := Int.emod_nonneg (n : Int) (show prodL os2 ≠ 0 by omega)
  have b1 := Int.emod_lt_of_pos (n : Int) (show 0 < prodL os2 by omega)
  have hs := Int.emod_add_mul_ediv (n : Int) (prodL os2)
  obtain ⟨a, ha⟩ := Int.eq_ofNat_of_zero_le a0
  obtain ⟨b, hb⟩ := Int.eq_ofNat_of_zero_le b0
  rw [ha] at a1 hs ⊢
  rw [hb] at b1 hs ⊢
  have hn : n = a * vs2.length + b := by
    rw [← l2] at hs
    have : ((a * vs2.length + b : Nat) : Int) = n := by rw [Int.natCast_add, Int.natCast_mul, Int.mul_comm]; omega
    omega
  unfold Vl
  simp only [Int.toNat_natCast]
  rw [hn]
  exact gi_sumL D e1 e2 (by omega) (by omega)
theorem Ar_parts (h1 : OkG os1) (h2 : OkG os2) (x y : Int) : (Ar (os1 ++ os2) x y) / prodL os2 = Ar os1 (x / prodL os2) (y / prodL os2) ∧ (Ar (os1 ++ os2) x y) % prodL os2 = Ar os2 (x % prodL os2) (y % prodL os2) ∧ 0 ≤ Ar (os1 ++ os2) x y ∧ Ar (os1 ++ os2) x y < prodL os1 * prodL os2 := by
  obtain ⟨a0, a1⟩ := Ar_rng h2 (x % prodL os2) (y % prodL os2)
  obtain ⟨b0, b1⟩ := Ar_rng h1 (x / prodL os2) (y / prodL os2)
  have hp := h2.ge
  rw [Ar_app h2]
  obtain ⟨d1, d2⟩ := dm (Ar os1 (x / prodL os2) (y / prodL os2)) a0 a1
  refine ⟨d2, d1, by have := Int.mul_nonneg (show 0 ≤ prodL os2 by omega) b0; omega, ?_⟩
  rw [Int.mul_comm (prodL os1)]
  exact lt_of_digit a1 b1 (by omega)
theorem parts_rng (h1 : OkG os1) (h2 : OkG os2) {x : Int} (x0 : 0 ≤ x) (x1 : x < prodL os1 * prodL os2) : (0 ≤ x / prodL os2 ∧ x / prodL os2 < prodL os1) ∧ 0 ≤ x % prodL os2 ∧ x % prodL os2 < prodL os2 := by
  have hp := h2.ge
  exact ⟨⟨Int.ediv_nonneg x0 (by omega), Int.ediv_lt_of_lt_mul (by omega) x1⟩, Int.emod_nonneg _ (by omega), Int.emod_lt_of_pos _ (by omega)⟩
theorem Pr_sum (h1 : OkM os1 D1 vs1) (h2 : OkM os2 D2 vs2) (m1 : D1 * e1 = D) (m2 : D2 * e2 = D) (p1 : 1 ≤ e1) (p2 : 1 ≤ e2) {x y : Int} (x0 : 0 ≤ x) (x1 : x < prodL os1 * prodL os2) (y0 : 0 ≤ y) (y1 : y < prodL os1 * prodL os2) :
    Pr (os1 ++ os2) D (sumL D e1 e2 vs1 vs2) x y = (Pr os1 D1 vs1 (x / prodL os2) (y / prodL os2) * e1 + Pr os2 D2 vs2 (x % prodL os2) (y % prodL os2) * e2) % (D : Int) := by
  obtain ⟨a1, a2, a3, a4⟩ := Ar_parts h1.g h2.g x y
  unfold Pr
  rw [Vl_sum h1 h2 x0 x1, Vl_sum h1 h2 y0 y1, Vl_sum h1 h2 a3 a4, a1, a2, ← emul m1 p1, ← emul m2 p2]
  generalize Vl vs1 (Ar os1 (x / prodL os2) (y / prodL os2)) = A
  generalize Vl vs2 (Ar os2 (x % prodL os2) (y % prodL os2)) = B
  generalize Vl vs1 (x / prodL os2) = A1
  generalize Vl vs1 (y / prodL os2) = A2
  generalize Vl vs2 (x % prodL os2) = B1
  generalize Vl vs2 (y % prodL os2) = B2
  rw [← Int.add_emod]
  rw [sub3]
  congr 1
  rw [Int.sub_mul, Int.sub_mul, Int.sub_mul, Int.sub_mul]
  omega
theorem prodL_app (a b : List Int) : prodL (a ++ b) = prodL a * prodL b := prodL_append a b
/-- The sum of two metrics is a metric. -/
theorem sum_isM (hM1 : IsM os1 D1 vs1) (hM2 : IsM os2 D2 vs2) (hQ : SumQ D1 D2 q e D e1 e2) (hP : prodL os1 * prodL os2 ≤ 16) (hL : os1.length + os2.length ≤ 4) : IsM (os1 ++ os2) D (sumL D e1 e2 vs1 vs2) := by
  have h1 := hM1.ok
  have h2 := hM2.ok
  obtain ⟨c1, d1, _⟩ := ordB_dvd hM1.ord
  obtain ⟨c2, d2, _⟩ := ordB_dvd hM2.ord
  rw [Int.toNat_natCast] at c1 d1 c2 d2
  obtain ⟨m1, m2, m3⟩ := hQ.dvd c1 c2
  have hD := hQ.b1
  have p1 := nonz m1 hD
  have p2 := nonz m2 hD
  have hdv := m3 d1 d2
  have hp1 := h1.g.ge
  have hp2 := h2.g.ge
  have hPr : ∀ {x y : Int}, 0 ≤ x → x < prodL os1 * prodL os2 → 0 ≤ y → y < prodL os1 * prodL os2 → _ := fun {x y} x0 x1 y0 y1 => Pr_sum (x := x) (y := y) h1 h2 m1 m2 p1 p2 x0 x1 y0 y1
  refine ⟨⟨⟨by have := h1.g.l1; simp; omega, by simp; omega, ?_, ?_, by rw [prodL_app]; exact hP⟩, by omega, by have := hQ.b; omega, by rw [sumL_len, prodL_app, ← h1.len, ← h2.len]; simp, ?_⟩, ?_, ?_, ?_, ?_⟩
  · intro m hm
    rcases List.mem_append.1 hm with h | h
    · exact h1.g.m2 m h
    · exact h2.g.m2 m h
  · intro m hm
    rcases List.mem_append.1 hm with h | h
    · exact h1.g.m16 m h
    · exact h2.g.m16 m h
  · intro v hv
    unfold sumL sumR at hv
    obtain ⟨a, _, hv⟩ := List.mem_flatMap.1 hv
    obtain ⟨b, _, rfl⟩ := List.mem_map.1 hv
    exact ⟨Int.emod_nonneg _ (by omega), Int.emod_lt_of_pos _ (by omega)⟩
  · exact ordB_t (by omega) (congrArg Int.ofNat (Nat.mod_eq_zero_of_dvd hdv))
  · have := Vl_sum (D := D) (e1 := e1) (e2 := e2) h1 h2 (x := 0) (by omega) (by have : 2 * 2 ≤ prodL os1 * prodL os2 := Int.mul_le_mul hp1 hp2 (by omega) (by omega); omega)
    have hz : Vl (sumL D e1 e2 vs1 vs2) 0 = gi (sumL D e1 e2 vs1 vs2) 0 := rfl
    have hz1 : Vl vs1 0 = gi vs1 0 := rfl
    have hz2 : Vl vs2 0 = gi vs2 0 := rfl
    rw [← hz, this, Int.zero_ediv, Int.zero_emod, hz1, hz2, hM1.zero, hM2.zero]
    simp
  · intro x hx
    rw [prodL_app] at hx
    obtain ⟨⟨a0, a1⟩, b0, b1⟩ := parts_rng h1.g h2.g (show (0 : Int) ≤ x by omega) hx
    have hn : Ng (os1 ++ os2) x = Ng os2 ((x : Int) % prodL os2) + prodL os2 * Ng os1 ((x : Int) / prodL os2) := Ng_app h2.g x
    obtain ⟨n0, n1⟩ := Ng_rng h2.g ((x : Int) % prodL os2)
    obtain ⟨k0, k1⟩ := Ng_rng h1.g ((x : Int) / prodL os2)
    obtain ⟨f1, f2⟩ := dm (Ng os1 ((x : Int) / prodL os2)) n0 n1
    rw [← hn] at f1 f2
    have g0 : 0 ≤ Ng (os1 ++ os2) x := by rw [hn]; have := Int.mul_nonneg (show 0 ≤ prodL os2 by omega) k0; omega
    have g1 : Ng (os1 ++ os2) x < prodL os1 * prodL os2 := by rw [hn, Int.mul_comm (prodL os1)]; exact lt_of_digit n1 k1 (by omega)
    rw [Vl_sum h1 h2 g0 g1, Vl_sum h1 h2 (by omega) hx, f1, f2]
    obtain ⟨u, hu⟩ := Int.eq_ofNat_of_zero_le a0
    obtain ⟨v, hv⟩ := Int.eq_ofNat_of_zero_le b0
    rw [hu] at a1 ⊢
    rw [hv] at b1 ⊢
    have ee1 := hM1.neg u a1
    have ee2 := hM2.neg v b1
    rw [ee1, ee2]
  · intro x y z hx hy hz
    rw [prodL_app] at hx hy hz
    obtain ⟨⟨xa0, xa1⟩, xb0, xb1⟩ := parts_rng h1.g h2.g (show (0 : Int) ≤ x by omega) hx
    obtain ⟨⟨ya0, ya1⟩, yb0, yb1⟩ := parts_rng h1.g h2.g (show (0 : Int) ≤ y by omega) hy
    obtain ⟨⟨za0, za1⟩, zb0, zb1⟩ := parts_rng h1.g h2.g (show (0 : Int) ≤ z by omega) hz
    obtain ⟨a1, a2, a3, a4⟩ := Ar_parts h1.g h2.g (x : Int) (y : Int)
    rw [hPr a3 a4 (by omega) hz, hPr (by omega) hx (by omega) hz, hPr (by omega) hy (by omega) hz, a1, a2]
    have l1 := h1.len
    have l2 := h2.len
    rw [bilI hM1 xa0 (by omega) ya0 (by omega) za0 (by omega), bilI hM2 xb0 (by omega) yb0 (by omega) zb0 (by omega)]
    rw [← emul m1 p1, ← emul m2 p2, ← Int.add_emod, ← Int.add_emod]
    congr 1
    rw [Int.add_mul, Int.add_mul]
    omega
end
end Go.Proofs.Ytnoemhmmaicakaa
