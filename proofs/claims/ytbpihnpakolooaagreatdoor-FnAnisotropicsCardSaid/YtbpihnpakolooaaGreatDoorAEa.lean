
/- The sum of metrics told plainly: its elements are pairs of elements, it is a metric, its Gauss sum is the product. No program is walked here. The sum of metrics is a metric, told plainly. FnAnisotropics, plain: equivalence of metrics goes both ways, and nondegenerate metrics are equivalent to themselves. DrawAreEquivalentMetrics. -/
import Derived.Test.YtbpihnpakolooaaGreatDoorX2
import Derived.Test.YtbpihnpakolooaaGreatDoorCma
import Derived.Test.YtbpihnpakolooaaGreatDoorANa
import Derived.Test.YtbpihnpakolooaaGreatDoorMWx
import Derived.Test.YtbpihnpakolooaaGreatDoorDla
import Derived.Test.YtbpihnpakolooaaGreatDoorDva
import Derived.Deep.DeepCutAuto
import Derived.WalkLawsBesides
namespace Go.Proofs.YtbpihnpakolooaaGreatDoor
open Go Go.RowKit Grp
set_option linter.unusedSimpArgs false
set_option linter.unusedVariables false

theorem mod_mul_mod {x m P : Int} (hm : 1 ≤ m) (hP : 1 ≤ P) : (x % (m * P)) % m = x % m ∧ (x % (m * P)) / m = (x / m) % P ∧ x / (m * P) = x / m / P := by
 have h1 := Int.emod_add_mul_ediv x m
 have h2 := Int.emod_add_mul_ediv (x / m) P
 obtain ⟨a0, a1⟩ := em (x := x) hm
 obtain ⟨b0, b1⟩ := em (x := x / m) hP
 have e : x = (x % m + m * ((x / m) % P)) + (m * P) * (x / m / P) := by
  rw [Int.mul_assoc, Int.add_assoc, ← Int.mul_add, h2, h1]
 have hr0 : 0 ≤ x % m + m * ((x / m) % P) := by have := Int.mul_nonneg (show 0 ≤ m by omega) b0; omega
 have hr1 : x % m + m * ((x / m) % P) < m * P := lt_of_digit a1 b1 hm
 have hmP : 1 ≤ m * P := by have : 1 * 1 ≤ m * P := Int.mul_le_mul hm hP (by omega) (by omega); omega
 obtain ⟨d1, d2⟩ := dm (x / m / P) hr0 hr1
 rw [← e] at d1 d2
 obtain ⟨f1, f2⟩ := dm ((x / m) % P) a0 a1
 refine ⟨?_, ?_, d2⟩
 ·rw [d1]; exact f1
 ·rw [d1]; exact f2
theorem addR_app {r s : List Int} (hr : Pos r) : ∀ x y, addR (r ++ s) x y = addR r (x % prodL r) (y % prodL r) + prodL r * addR s (x / prodL r) (y / prodL r) := by
 induction r with
 | nil => intro x y; simp [addR, prodL]
 | cons m r ih =>
  intro x y
  have hm := hr.head
  have hP := prodL_pos hr.tail
  obtain ⟨a1, a2, a3⟩ := mod_mul_mod (x := x) hm hP
  obtain ⟨b1, b2, b3⟩ := mod_mul_mod (x := y) hm hP
  show (x % m + y % m) % m + m * addR (r ++ s) (x / m) (y / m) = _
  rw [ih hr.tail]
  simp only [addR, prodL]
  rw [a1, a2, a3, b1, b2, b3, Int.mul_add, Int.mul_assoc]
  omega
theorem negR_app {r s : List Int} (hr : Pos r) : ∀ x, negR (r ++ s) x = negR r (x % prodL r) + prodL r * negR s (x / prodL r) := by
 induction r with
 | nil => intro x; simp [negR, prodL]
 | cons m r ih =>
  intro x
  have hm := hr.head
  have hP := prodL_pos hr.tail
  obtain ⟨a1, a2, a3⟩ := mod_mul_mod (x := x) hm hP
  show (m - x % m) % m + m * negR (r ++ s) (x / m) = _
  rw [ih hr.tail]
  simp only [negR, prodL]
  rw [a1, a2, a3, Int.mul_add, Int.mul_assoc]
  omega
theorem Ar_app {os1 os2 : List Int} (h2 : OkG os2) (x y : Int) : Ar (os1 ++ os2) x y = Ar os2 (x % prodL os2) (y % prodL os2) + prodL os2 * Ar os1 (x / prodL os2) (y / prodL os2) := by
 unfold Ar
 rw [List.reverse_append, addR_app h2.posR, prodL_reverse]
theorem Ng_app {os1 os2 : List Int} (h2 : OkG os2) (x : Int) : Ng (os1 ++ os2) x = Ng os2 (x % prodL os2) + prodL os2 * Ng os1 (x / prodL os2) := by
 unfold Ng
 rw [List.reverse_append, negR_app h2.posR, prodL_reverse]
theorem gi_map {f : Int → Int} {xs : List Int} {k : Nat} (h : k < xs.length) : gi (xs.map f) k = f (gi xs k) := by
 unfold gi; simp [List.getD_eq_getElem?_getD, h]
theorem gi_sumL (D e1 e2 : Nat) {vs2 : List Int} : ∀ {vs1 : List Int} {a b : Nat}, a < vs1.length → b < vs2.length → gi (sumL D e1 e2 vs1 vs2) (a * vs2.length + b) = (gi vs1 a * e1 + gi vs2 b * e2) % (D : Int) := by
 intro vs1
 induction vs1 with
 | nil => intro a b h; simp at h
 | cons v vs ih =>
  intro a b ha hb
  show gi (sumR D e1 e2 v vs2 ++ sumL D e1 e2 vs vs2) _ = _
  cases a with
  | zero =>
   have : gi (sumR D e1 e2 v vs2 ++ sumL D e1 e2 vs vs2) (0 * vs2.length + b) = gi (sumR D e1 e2 v vs2) b := by
    unfold gi; simp [List.getD_eq_getElem?_getD, List.getElem?_append, sumR_len, hb]
   rw [this]
   unfold sumR
   rw [gi_map hb]; rfl
  | succ a =>
   have : gi (sumR D e1 e2 v vs2 ++ sumL D e1 e2 vs vs2) ((a + 1) * vs2.length + b) = gi (sumL D e1 e2 vs vs2) (a * vs2.length + b) := by
    unfold gi
    rw [List.getD_eq_getElem?_getD, List.getD_eq_getElem?_getD, List.getElem?_append_right (by rw [sumR_len, Nat.succ_mul]; omega), sumR_len]
    congr 2
    rw [Nat.succ_mul]; omega
   rw [this, ih (by simpa using ha) hb]
   rfl
theorem SumQ.dvd {D1 D2 q e D e1 e2 : Nat} (hQ : SumQ D1 D2 q e D e1 e2) (h1 : 1 ≤ D1) (h2 : 1 ≤ D2) : D1 * e1 = D ∧ D2 * e2 = D ∧ (D1 ∣ 55440 → D2 ∣ 55440 → D ∣ 55440) := by
 have e : D = Nat.lcm D1 D2 := by
  rw [← hQ.mul, ← hQ.div, ← hQ.gcd]
  unfold Nat.lcm
  rw [Nat.mul_comm D1 D2, Nat.mul_div_assoc _ (Nat.gcd_dvd_left D1 D2), Nat.mul_comm]
 refine ⟨?_, ?_, fun a b => e ▸ Nat.lcm_dvd a b⟩
 ·rw [← hQ.d1, e]; exact Nat.mul_div_cancel' (Nat.dvd_lcm_left D1 D2)
 ·rw [← hQ.d2, e]; exact Nat.mul_div_cancel' (Nat.dvd_lcm_right D1 D2)

section
variable {os1 os2 vs1 vs2 : List Int} {D1 D2 q e D e1 e2 : Nat}
theorem emul {D1 e1 D : Nat} (h : D1 * e1 = D) (he : 1 ≤ e1) (A : Int) : (A * e1) % (D : Int) = (A % (D1 : Int)) * e1 := by
 rw [← h, Int.natCast_mul, Int.mul_comm A, Int.mul_comm (D1 : Int), Int.mul_emod_mul_of_pos _ _ (by omega), Int.mul_comm]
theorem sub3 (a b c D : Int) : ((a % D) - (b % D) - (c % D)) % D = (a - b - c) % D := by
 have h1 : ((a % D) - (b % D)) % D = (a - b) % D := (Int.sub_emod a b D).symm
 rw [Int.sub_emod (a % D - b % D), h1, Int.emod_emod_of_dvd _ (Int.dvd_refl D), ← Int.sub_emod]
theorem nonz {D1 e1 D : Nat} (h : D1 * e1 = D) (hD : 1 ≤ D) : 1 ≤ e1 := by
 rcases Nat.eq_zero_or_pos e1 with h' | h'
 ·rw [h', Nat.mul_zero] at h; omega
 ·exact h'
theorem Vl_sum (h1 : OkM os1 D1 vs1) (h2 : OkM os2 D2 vs2) {x : Int} (x0 : 0 ≤ x) (x1 : x < prodL os1 * prodL os2) :
  Vl (sumL D e1 e2 vs1 vs2) x = (Vl vs1 (x / prodL os2) * e1 + Vl vs2 (x % prodL os2) * e2) % (D : Int) := by
 have hp := h2.g.ge
 have l1 := h1.len
 have l2 := h2.len
 obtain ⟨n, rfl⟩ := Int.eq_ofNat_of_zero_le x0
 have a0 := Int.ediv_nonneg x0 (show 0 ≤ prodL os2 by omega)
 have a1 : (n : Int) / prodL os2 < prodL os1 := Int.ediv_lt_of_lt_mul (by omega) x1
 have b0 := Int.emod_nonneg (n : Int) (show prodL os2 ≠ 0 by omega)
 have b1 := Int.emod_lt_of_pos (n : Int) (show 0 < prodL os2 by omega)
 have hs := Int.emod_add_mul_ediv (n : Int) (prodL os2)
 obtain ⟨a, ha⟩ := Int.eq_ofNat_of_zero_le a0
 obtain ⟨b, hb⟩ := Int.eq_ofNat_of_zero_le b0
 rw [ha] at a1 hs ⊢
 rw [hb] at b1 hs ⊢
 have hn : n = a * vs2.length + b := by
  rw [← l2] at hs
  have : ((a * vs2.length + b : Nat) : Int) = n := by rw [Int.natCast_add, Int.natCast_mul, Int.mul_comm]; omega
  omega
 unfold Vl
 simp only [Int.toNat_natCast]
 rw [hn]
 exact gi_sumL D e1 e2 (by omega) (by omega)
theorem Ar_parts (h1 : OkG os1) (h2 : OkG os2) (x y : Int) : (Ar (os1 ++ os2) x y) / prodL os2 = Ar os1 (x / prodL os2) (y / prodL os2) ∧ (Ar (os1 ++ os2) x y) % prodL os2 = Ar os2 (x % prodL os2) (y % prodL os2) ∧ 0 ≤ Ar (os1 ++ os2) x y ∧ Ar (os1 ++ os2) x y < prodL os1 * prodL os2 := by
 obtain ⟨a0, a1⟩ := Ar_rng h2 (x % prodL os2) (y % prodL os2)
 obtain ⟨b0, b1⟩ := Ar_rng h1 (x / prodL os2) (y / prodL os2)
 have hp := h2.ge
 rw [Ar_app h2]
 obtain ⟨d1, d2⟩ := dm (Ar os1 (x / prodL os2) (y / prodL os2)) a0 a1
 refine ⟨d2, d1, by have := Int.mul_nonneg (show 0 ≤ prodL os2 by omega) b0; omega, ?_⟩
 rw [Int.mul_comm (prodL os1)]
 exact lt_of_digit a1 b1 (by omega)
theorem parts_rng (h1 : OkG os1) (h2 : OkG os2) {x : Int} (x0 : 0 ≤ x) (x1 : x < prodL os1 * prodL os2) : (0 ≤ x / prodL os2 ∧ x / prodL os2 < prodL os1) ∧ 0 ≤ x % prodL os2 ∧ x % prodL os2 < prodL os2 := by
 have hp := h2.ge
 exact ⟨⟨Int.ediv_nonneg x0 (by omega), Int.ediv_lt_of_lt_mul (by omega) x1⟩, Int.emod_nonneg _ (by omega), Int.emod_lt_of_pos _ (by omega)⟩
theorem Pr_sum (h1 : OkM os1 D1 vs1) (h2 : OkM os2 D2 vs2) (m1 : D1 * e1 = D) (m2 : D2 * e2 = D) (p1 : 1 ≤ e1) (p2 : 1 ≤ e2) {x y : Int} (x0 : 0 ≤ x) (x1 : x < prodL os1 * prodL os2) (y0 : 0 ≤ y) (y1 : y < prodL os1 * prodL os2) :
  Pr (os1 ++ os2) D (sumL D e1 e2 vs1 vs2) x y = (Pr os1 D1 vs1 (x / prodL os2) (y / prodL os2) * e1 + Pr os2 D2 vs2 (x % prodL os2) (y % prodL os2) * e2) % (D : Int) := by
 obtain ⟨a1, a2, a3, a4⟩ := Ar_parts h1.g h2.g x y
 unfold Pr
 rw [Vl_sum h1 h2 x0 x1, Vl_sum h1 h2 y0 y1, Vl_sum h1 h2 a3 a4, a1, a2, ← emul m1 p1, ← emul m2 p2]
 generalize Vl vs1 (Ar os1 (x / prodL os2) (y / prodL os2)) = A
 generalize Vl vs2 (Ar os2 (x % prodL os2) (y % prodL os2)) = B
 generalize Vl vs1 (x / prodL os2) = A1
 generalize Vl vs1 (y / prodL os2) = A2
 generalize Vl vs2 (x % prodL os2) = B1
 generalize Vl vs2 (y % prodL os2) = B2
 rw [← Int.add_emod]
 rw [sub3]
 congr 1
 rw [Int.sub_mul, Int.sub_mul, Int.sub_mul, Int.sub_mul]
 omega
theorem prodL_app (a b : List Int) : prodL (a ++ b) = prodL a * prodL b := prodL_append a b
theorem sum_isM (hM1 : IsM os1 D1 vs1) (hM2 : IsM os2 D2 vs2) (hQ : SumQ D1 D2 q e D e1 e2) (hP : prodL os1 * prodL os2 ≤ 16) (hL : os1.length + os2.length ≤ 4) : IsM (os1 ++ os2) D (sumL D e1 e2 vs1 vs2) := by
 have h1 := hM1.ok
 have h2 := hM2.ok
 obtain ⟨c1, d1, _⟩ := ordB_dvd hM1.ord
 obtain ⟨c2, d2, _⟩ := ordB_dvd hM2.ord
 rw [Int.toNat_natCast] at c1 d1 c2 d2
 obtain ⟨m1, m2, m3⟩ := hQ.dvd c1 c2
 have hD := hQ.b1
 have p1 := nonz m1 hD
 have p2 := nonz m2 hD
 have hdv := m3 d1 d2
 have hp1 := h1.g.ge
 have hp2 := h2.g.ge
 have hPr : ∀ {x y : Int}, 0 ≤ x → x < prodL os1 * prodL os2 → 0 ≤ y → y < prodL os1 * prodL os2 → _ := fun {x y} x0 x1 y0 y1 => Pr_sum (x := x) (y := y) h1 h2 m1 m2 p1 p2 x0 x1 y0 y1
 refine ⟨⟨⟨by have := h1.g.l1; simp; omega, by simp; omega, ?_, ?_, by rw [prodL_app]; exact hP⟩, by omega, by have := hQ.b; omega, by rw [sumL_len, prodL_app, ← h1.len, ← h2.len]; simp, ?_⟩, ?_, ?_, ?_, ?_⟩
 ·intro m hm
  rcases List.mem_append.1 hm with h | h
  ·exact h1.g.m2 m h
  ·exact h2.g.m2 m h
 ·intro m hm
  rcases List.mem_append.1 hm with h | h
  ·exact h1.g.m16 m h
  ·exact h2.g.m16 m h
 ·intro v hv
  unfold sumL sumR at hv
  obtain ⟨a, _, hv⟩ := List.mem_flatMap.1 hv
  obtain ⟨b, _, rfl⟩ := List.mem_map.1 hv
  exact ⟨Int.emod_nonneg _ (by omega), Int.emod_lt_of_pos _ (by omega)⟩
 ·exact ordB_t (by omega) (congrArg Int.ofNat (Nat.mod_eq_zero_of_dvd hdv))
 ·have := Vl_sum (D := D) (e1 := e1) (e2 := e2) h1 h2 (x := 0) (by omega) (by have : 2 * 2 ≤ prodL os1 * prodL os2 := Int.mul_le_mul hp1 hp2 (by omega) (by omega); omega)
  have hz : Vl (sumL D e1 e2 vs1 vs2) 0 = gi (sumL D e1 e2 vs1 vs2) 0 := rfl
  have hz1 : Vl vs1 0 = gi vs1 0 := rfl
  have hz2 : Vl vs2 0 = gi vs2 0 := rfl
  rw [← hz, this, Int.zero_ediv, Int.zero_emod, hz1, hz2, hM1.zero, hM2.zero]
  simp
 ·intro x hx
  rw [prodL_app] at hx
  obtain ⟨⟨a0, a1⟩, b0, b1⟩ := parts_rng h1.g h2.g (show (0 : Int) ≤ x by omega) hx
  have hn : Ng (os1 ++ os2) x = Ng os2 ((x : Int) % prodL os2) + prodL os2 * Ng os1 ((x : Int) / prodL os2) := Ng_app h2.g x
  obtain ⟨n0, n1⟩ := Ng_rng h2.g ((x : Int) % prodL os2)
  obtain ⟨k0, k1⟩ := Ng_rng h1.g ((x : Int) / prodL os2)
  obtain ⟨f1, f2⟩ := dm (Ng os1 ((x : Int) / prodL os2)) n0 n1
  rw [← hn] at f1 f2
  have g0 : 0 ≤ Ng (os1 ++ os2) x := by rw [hn]; have := Int.mul_nonneg (show 0 ≤ prodL os2 by omega) k0; omega
  have g1 : Ng (os1 ++ os2) x < prodL os1 * prodL os2 := by rw [hn, Int.mul_comm (prodL os1)]; exact lt_of_digit n1 k1 (by omega)
  rw [Vl_sum h1 h2 g0 g1, Vl_sum h1 h2 (by omega) hx, f1, f2]
  obtain ⟨u, hu⟩ := Int.eq_ofNat_of_zero_le a0
  obtain ⟨v, hv⟩ := Int.eq_ofNat_of_zero_le b0
  rw [hu] at a1 ⊢
  rw [hv] at b1 ⊢
  have ee1 := hM1.neg u a1
  have ee2 := hM2.neg v b1
  rw [ee1, ee2]
 ·intro x y z hx hy hz
  rw [prodL_app] at hx hy hz
  obtain ⟨⟨xa0, xa1⟩, xb0, xb1⟩ := parts_rng h1.g h2.g (show (0 : Int) ≤ x by omega) hx
  obtain ⟨⟨ya0, ya1⟩, yb0, yb1⟩ := parts_rng h1.g h2.g (show (0 : Int) ≤ y by omega) hy
  obtain ⟨⟨za0, za1⟩, zb0, zb1⟩ := parts_rng h1.g h2.g (show (0 : Int) ≤ z by omega) hz
  obtain ⟨a1, a2, a3, a4⟩ := Ar_parts h1.g h2.g (x : Int) (y : Int)
  rw [hPr a3 a4 (by omega) hz, hPr (by omega) hx (by omega) hz, hPr (by omega) hy (by omega) hz, a1, a2]
  have l1 := h1.len
  have l2 := h2.len
  rw [bilI hM1 xa0 (by omega) ya0 (by omega) za0 (by omega), bilI hM2 xb0 (by omega) yb0 (by omega) zb0 (by omega)]
  rw [← emul m1 p1, ← emul m2 p2, ← Int.add_emod, ← Int.add_emod]
  congr 1
  rw [Int.add_mul, Int.add_mul]
  omega
end
theorem sD_comm (D1 D2 : Nat) : sD D1 D2 = sD D2 D1 := by
 unfold sD
 obtain ⟨a, ha⟩ := Nat.gcd_dvd_left D1 D2
 obtain ⟨b, hb⟩ := Nat.gcd_dvd_right D1 D2
 rw [Nat.gcd_comm D2 D1]
 rcases Nat.eq_zero_or_pos (Nat.gcd D1 D2) with h | h
 ·rw [h]; simp
 ·obtain ⟨g, hg⟩ : ∃ g, Nat.gcd D1 D2 = g := ⟨_, rfl⟩
  rw [hg] at ha hb h ⊢
  rw [ha, hb, Nat.mul_div_cancel_left _ h, Nat.mul_div_cancel_left _ h, ← Nat.mul_assoc, ← Nat.mul_assoc, Nat.mul_comm a g, Nat.mul_comm b g, Nat.mul_assoc, Nat.mul_assoc, Nat.mul_comm a b]
structure AeP (os1 : List Int) (D1 : Nat) (vs1 os2 : List Int) (D2 : Nat) (vs2 : List Int) (e1 e2 D : Int) (P : Int → Int → Prop) : Prop where
 zero : P 0 0
 add : ∀ x y x' y', P x y → P x' y' → P (Ar os1 x x') (Ar os2 y y')
 rng : ∀ x y, P x y → (0 ≤ x ∧ x < prodL os1) ∧ 0 ≤ y ∧ y < prodL os2
 iso : ∀ x y, P x y → (Vl vs1 x * e1 - Vl vs2 y * e2) % D = 0
 ort : ∀ x y, 0 ≤ x → x < prodL os1 → 0 ≤ y → y < prodL os2 → ((∀ x' y', P x' y' → (Pr os1 D1 vs1 x x' * e1 - Pr os2 D2 vs2 y y' * e2) % D = 0) ↔ P x y)
theorem flip0 {a b D : Int} : (a - b) % D = 0 ↔ (b - a) % D = 0 := by
 rw [← Int.dvd_iff_emod_eq_zero, ← Int.dvd_iff_emod_eq_zero, ← Int.dvd_neg, Int.neg_sub]
theorem AeP.flip {os1 vs1 os2 vs2 : List Int} {D1 D2 : Nat} {e1 e2 D : Int} {P : Int → Int → Prop} (h : AeP os1 D1 vs1 os2 D2 vs2 e1 e2 D P) : AeP os2 D2 vs2 os1 D1 vs1 e2 e1 D (fun x y => P y x) where
 zero := h.zero
 add x y x' y' h1 h2 := h.add y x y' x' h1 h2
 rng x y h1 := ⟨(h.rng y x h1).2, (h.rng y x h1).1⟩
 iso x y h1 := flip0.1 (h.iso y x h1)
 ort x y x0 x1 y0 y1 := by
  rw [← h.ort y x y0 y1 x0 x1]
  exact ⟨fun k x' y' hp => flip0.1 (k y' x' hp), fun k x' y' hp => flip0.1 (k y' x' hp)⟩
section
variable {os1 vs1 os2 vs2 : List Int} {D1 D2 : Nat} (hM1 : IsM os1 D1 vs1) (hM2 : IsM os2 D2 vs2) (hP : prodL os1 * prodL os2 ≤ 16) (hL : os1.length + os2.length ≤ 4)
include hM1 hM2
theorem ae_q : SumQ D1 D2 (Nat.gcd D1 D2) (D1 / Nat.gcd D1 D2) (sD D1 D2) (sD D1 D2 / D1) (sD D1 D2 / D2) := by
 obtain ⟨c1, d1, _⟩ := ordB_dvd hM1.ord
 obtain ⟨c2, d2, _⟩ := ordB_dvd hM2.ord
 rw [Int.toNat_natCast] at c1 d1 c2 d2
 exact sumQ_at (Nat.mod_eq_zero_of_dvd d1) (Nat.mod_eq_zero_of_dvd d2) c1 c2
theorem ae_pos : D1 * (sD D1 D2 / D1) = sD D1 D2 ∧ D2 * (sD D1 D2 / D2) = sD D1 D2 ∧ 1 ≤ sD D1 D2 / D1 ∧ 1 ≤ sD D1 D2 / D2 := by
 have hQ := ae_q hM1 hM2
 obtain ⟨c1, d1, _⟩ := ordB_dvd hM1.ord
 obtain ⟨c2, d2, _⟩ := ordB_dvd hM2.ord
 rw [Int.toNat_natCast] at c1 d1 c2 d2
 obtain ⟨m1, m2, m3⟩ := hQ.dvd c1 c2
 exact ⟨m1, m2, nonz m1 hQ.b1, nonz m2 hQ.b1⟩
theorem ae_vl {x : Int} (x0 : 0 ≤ x) (x1 : x < prodL os1 * prodL os2) : Vl (sumL (sD D1 D2) (sD D1 D2 / D1) (sD D1 D2 / D2) vs1 (negL (D2 : Int) vs2)) x = (Vl vs1 (x / prodL os2) * (sD D1 D2 / D1 : Nat) - Vl vs2 (x % prodL os2) * (sD D1 D2 / D2 : Nat)) % (sD D1 D2 : Nat) := by
 obtain ⟨m1, m2, p1, p2⟩ := ae_pos hM1 hM2
 rw [Vl_sum hM1.ok (neg_isM hM2).ok x0 x1, negL_vl, ← emul m2 p2, Int.neg_mul]
 rw [Int.add_emod, Int.emod_emod_of_dvd _ (Int.dvd_refl _), ← Int.add_emod]
 rfl
theorem ae_pr {x y : Int} (x0 : 0 ≤ x) (x1 : x < prodL os1 * prodL os2) (y0 : 0 ≤ y) (y1 : y < prodL os1 * prodL os2) : Pr (os1 ++ os2) (sD D1 D2 : Nat) (sumL (sD D1 D2) (sD D1 D2 / D1) (sD D1 D2 / D2) vs1 (negL (D2 : Int) vs2)) x y = (Pr os1 D1 vs1 (x / prodL os2) (y / prodL os2) * (sD D1 D2 / D1 : Nat) - Pr os2 D2 vs2 (x % prodL os2) (y % prodL os2) * (sD D1 D2 / D2 : Nat)) % (sD D1 D2 : Nat) := by
 obtain ⟨m1, m2, p1, p2⟩ := ae_pos hM1 hM2
 rw [Pr_sum hM1.ok (neg_isM hM2).ok m1 m2 p1 p2 x0 x1 y0 y1, negL_pr, ← emul m2 p2, Int.neg_mul]
 rw [Int.add_emod, Int.emod_emod_of_dvd _ (Int.dvd_refl _), ← Int.add_emod]
 rfl
omit hM1 hM2 in
theorem pair_at {N2 x y : Int} (y0 : 0 ≤ y) (y1 : y < N2) : (y + N2 * x) % N2 = y ∧ (y + N2 * x) / N2 = x := dm x y0 y1
include hP hL
theorem ae_isM : IsM (os1 ++ os2) (sD D1 D2 : Nat) (sumL (sD D1 D2) (sD D1 D2 / D1) (sD D1 D2 / D2) vs1 (negL (D2 : Int) vs2)) := sum_isM hM1 (neg_isM hM2) (ae_q hM1 hM2) hP hL
theorem ae_iff : 0 < (aeL os1 D1 vs1 os2 D2 vs2).length ↔ ∃ P, AeP os1 D1 vs1 os2 D2 vs2 (sD D1 D2 / D1 : Nat) (sD D1 D2 / D2 : Nat) (sD D1 D2 : Nat) P := by
 have hM := ae_isM hM1 hM2 hP hL
 have g1 := hM1.ok.g
 have g2 := hM2.ok.g
 have hp1 := g1.ge
 have hp2 := g2.ge
 have hlen := hM.ok.len
 rw [prodL_app] at hlen
 have hvl := fun {x} => ae_vl hM1 hM2 (x := x)
 have hpr := fun {x y} => ae_pr hM1 hM2 (x := x) (y := y)
 unfold aeL
 generalize hS : sumL (sD D1 D2) (sD D1 D2 / D1) (sD D1 D2 / D2) vs1 (negL (D2 : Int) vs2) = S at hM hlen hvl hpr ⊢
 clear hS
 obtain ⟨D, hD⟩ : ∃ D : Int, ((sD D1 D2 : Nat) : Int) = D := ⟨_, rfl⟩
 rw [hD] at hM hvl hpr ⊢
 clear hD
 have hN0 : 0 < prodL os1 * prodL os2 := Int.mul_pos (by omega) (by omega)
 have hmix : ∀ {x y : Int}, 0 ≤ x → x < prodL os1 → 0 ≤ y → y < prodL os2 → 0 ≤ y + prodL os2 * x ∧ y + prodL os2 * x < prodL os1 * prodL os2 := fun {x y} x0 x1 y0 y1 => by
  refine ⟨by have := Int.mul_nonneg (show 0 ≤ prodL os2 by omega) x0; omega, ?_⟩
  rw [Int.mul_comm (prodL os1)]
  exact lt_of_digit y1 x1 (by omega)
 have har : ∀ {x y x' y' : Int}, 0 ≤ y → y < prodL os2 → 0 ≤ y' → y' < prodL os2 → Ar (os1 ++ os2) (y + prodL os2 * x) (y' + prodL os2 * x') = Ar os2 y y' + prodL os2 * Ar os1 x x' := fun {x y x' y'} y0 y1 y0' y1' => by
  rw [Ar_app g2, (pair_at y0 y1).1, (pair_at y0 y1).2, (pair_at y0' y1').1, (pair_at y0' y1').2]
 constructor
 ·intro h
  obtain ⟨m, hm⟩ := List.exists_mem_of_length_pos h
  unfold lagK at hm
  rw [List.mem_filter, beq_iff_eq] at hm
  obtain ⟨hm1, hm2⟩ := hm
  obtain ⟨hC, hs⟩ := iso_cs hM hm1
  generalize mems S.length m.toNat = H at hC hs hm2
  have hrH : ∀ u ∈ H, 0 ≤ u ∧ u < prodL os1 * prodL os2 := fun u hu => by have := hC.rng u hu; rwa [prodL_app] at this
  refine ⟨fun x y => (0 ≤ x ∧ x < prodL os1) ∧ (0 ≤ y ∧ y < prodL os2) ∧ y + prodL os2 * x ∈ H, ⟨by omega, by omega, by simpa using hC.zero⟩, ?_, fun x y h => ⟨h.1, h.2.1⟩, ?_, ?_⟩
  ·rintro x y x' y' ⟨hx, hy, h⟩ ⟨hx', hy', h'⟩
   refine ⟨Ar_rng g1 _ _, Ar_rng g2 _ _, ?_⟩
   have := hC.add _ h _ h'
   rwa [har hy.1 hy.2 hy'.1 hy'.2] at this
  ·rintro x y ⟨hx, hy, h⟩
   have r := hrH _ h
   have := hC.iso _ h
   rw [hvl r.1 r.2, (pair_at hy.1 hy.2).1, (pair_at hy.1 hy.2).2] at this
   exact this
  ·intro x y x0 x1 y0 y1
   have r := hmix x0 x1 y0 y1
   have hmem : y + prodL os2 * x ∈ H ↔ ∀ v ∈ H, Pr (os1 ++ os2) D S (y + prodL os2 * x) v = 0 := by
    rw [← hm2, mem_ortL, hm2]
    exact ⟨fun h => h.2.2, fun h => ⟨r.1, by omega, h⟩⟩
   constructor
   ·intro h
    refine ⟨⟨x0, x1⟩, ⟨y0, y1⟩, hmem.2 fun v hv => ?_⟩
    have rv := hrH v hv
    obtain ⟨a, b⟩ := parts_rng g1 g2 rv.1 rv.2
    rw [hpr r.1 r.2 rv.1 rv.2, (pair_at y0 y1).1, (pair_at y0 y1).2]
    exact h _ _ ⟨a, b, by rw [Int.emod_add_mul_ediv]; exact hv⟩
   ·rintro ⟨_, _, h⟩ x' y' ⟨hx', hy', h'⟩
    have r' := hrH _ h'
    have := hmem.1 h _ h'
    rw [hpr r.1 r.2 r'.1 r'.2, (pair_at y0 y1).1, (pair_at y0 y1).2, (pair_at hy'.1 hy'.2).1, (pair_at hy'.1 hy'.2).2] at this
    exact this
 ·rintro ⟨P, hPz⟩
  obtain ⟨H, hH⟩ : ∃ H : List Int, H.Pairwise (· < ·) ∧ ∀ u, u ∈ H ↔ (0 ≤ u ∧ u < prodL os1 * prodL os2) ∧ P (u / prodL os2) (u % prodL os2) := by
   classical
   refine ⟨((List.range S.length).map fun (x : Nat) => (x : Int)).filter fun u => decide (P (u / prodL os2) (u % prodL os2)), ?_, fun u => ?_⟩
   ·exact List.Pairwise.filter _ (List.Pairwise.map _ (R := (· < ·)) (fun a b h => by simpa using h) List.pairwise_lt_range)
   ·rw [List.mem_filter, List.mem_map, decide_eq_true_eq]
    constructor
    ·rintro ⟨⟨k, hk, rfl⟩, h⟩
     have := List.mem_range.1 hk
     exact ⟨⟨by omega, by omega⟩, h⟩
    ·rintro ⟨h0, h⟩
     exact ⟨⟨u.toNat, List.mem_range.2 (by omega), by omega⟩, h⟩
  obtain ⟨hs, hm⟩ := hH
  have hC : Cs (os1 ++ os2) D S H := by
   refine ⟨hM, fun u hu => by rw [prodL_app]; exact ((hm u).1 hu).1, hs.imp fun h => by omega, (hm 0).2 ⟨⟨by omega, hN0⟩, by rw [Int.zero_ediv, Int.zero_emod]; exact hPz.zero⟩, fun u hu v hv => ?_, fun u hu => ?_⟩
   ·obtain ⟨a1, a2, a3, a4⟩ := Ar_parts g1 g2 u v
    exact (hm _).2 ⟨⟨a3, a4⟩, by rw [a1, a2]; exact hPz.add _ _ _ _ ((hm u).1 hu).2 ((hm v).1 hv).2⟩
   ·obtain ⟨r, h⟩ := (hm u).1 hu
    rw [hvl r.1 r.2]
    exact hPz.iso _ _ h
  obtain ⟨k1, k2⟩ := iso_mem hM hC hs
  refine List.length_pos_of_mem (a := ((msk H : Nat) : Int)) ?_
  unfold lagK
  rw [List.mem_filter, beq_iff_eq, k2]
  refine ⟨k1, lt_ext (ortL_lt _ _ _ _ _) hs fun u => ?_⟩
  rw [mem_ortL, hm]
  constructor
  ·rintro ⟨u0, u1, h⟩
   have ru : u < prodL os1 * prodL os2 := by omega
   obtain ⟨a, b⟩ := parts_rng g1 g2 u0 ru
   refine ⟨⟨u0, ru⟩, (hPz.ort _ _ a.1 a.2 b.1 b.2).1 fun x' y' hp => ?_⟩
   obtain ⟨rx, ry⟩ := hPz.rng _ _ hp
   have rv := hmix rx.1 rx.2 ry.1 ry.2
   have hv : y' + prodL os2 * x' ∈ H := (hm _).2 ⟨rv, by rw [(pair_at ry.1 ry.2).1, (pair_at ry.1 ry.2).2]; exact hp⟩
   have := h _ hv
   rw [hpr u0 ru rv.1 rv.2, (pair_at ry.1 ry.2).1, (pair_at ry.1 ry.2).2] at this
   exact this
  ·rintro ⟨⟨u0, ru⟩, h⟩
   refine ⟨u0, by omega, fun v hv => ?_⟩
   obtain ⟨rv, hpv⟩ := (hm v).1 hv
   obtain ⟨a, b⟩ := parts_rng g1 g2 u0 ru
   rw [hpr u0 ru rv.1 rv.2]
   exact (hPz.ort _ _ a.1 a.2 b.1 b.2).2 h _ _ hpv
end
theorem ae_comm {os1 vs1 os2 vs2 : List Int} {D1 D2 : Int} (h : AeOk os1 D1 vs1 os2 D2 vs2) : aeB os1 D1 vs1 os2 D2 vs2 = aeB os2 D2 vs2 os1 D1 vs1 ∧ AeOk os2 D2 vs2 os1 D1 vs1 := by
 obtain ⟨hM1, hM2, hP, hL⟩ := h
 obtain ⟨d1, rfl⟩ : ∃ d : Nat, D1 = d := ⟨D1.toNat, by have := hM1.ok.d1; omega⟩
 obtain ⟨d2, rfl⟩ : ∃ d : Nat, D2 = d := ⟨D2.toNat, by have := hM2.ok.d1; omega⟩
 have hP' : prodL os2 * prodL os1 ≤ 16 := by rw [Int.mul_comm]; exact hP
 have hL' : os2.length + os1.length ≤ 4 := by omega
 have hok : AeOk os2 d2 vs2 os1 d1 vs1 := ⟨hM2, hM1, hP', hL'⟩
 refine ⟨?_, hok⟩
 unfold aeB
 rw [if_pos (show AeOk os1 d1 vs1 os2 d2 vs2 from ⟨hM1, hM2, hP, hL⟩), if_pos hok, Int.toNat_natCast, Int.toNat_natCast]
 refine decide_eq_decide.2 ?_
 rw [ae_iff hM1 hM2 hP hL, ae_iff hM2 hM1 hP' hL', sD_comm d2 d1]
 exact ⟨fun ⟨P, h⟩ => ⟨_, h.flip⟩, fun ⟨P, h⟩ => ⟨_, h.flip⟩⟩
theorem sD_self (D : Nat) (h : 1 ≤ D) : sD D D = D := by
 unfold sD
 rw [Nat.gcd_self, Nat.div_self h, Nat.one_mul]
theorem ae_self {os vs : List Int} {D : Int} (hM : IsM os D vs) (hn : Ndg os D vs) (hP : prodL os * prodL os ≤ 16) (hL : os.length + os.length ≤ 4) : aeB os D vs os D vs = true := by
 obtain ⟨d, rfl⟩ : ∃ d : Nat, D = d := ⟨D.toNat, by have := hM.ok.d1; omega⟩
 unfold aeB
 rw [if_pos (show AeOk os d vs os d vs from ⟨hM, hM, hP, hL⟩), Int.toNat_natCast]
 refine decide_eq_true ((ae_iff hM hM hP hL).2 ?_)
 have hd : 1 ≤ d := by have := hM.ok.d1; omega
 have hG := hM.ok.g
 have hge := hG.ge
 have hl := hM.ok.len
 rw [sD_self d hd, Nat.div_self hd]
 refine ⟨fun x y => (0 ≤ x ∧ x < prodL os) ∧ y = x, ⟨by omega, rfl⟩, ?_, ?_, ?_, ?_⟩
 ·rintro x y x' y' ⟨hx, rfl⟩ ⟨hx', rfl⟩
  exact ⟨Ar_rng hG _ _, rfl⟩
 ·rintro x y ⟨hx, rfl⟩
  exact ⟨hx, hx⟩
 ·rintro x y ⟨hx, rfl⟩
  rw [Int.sub_self, Int.zero_emod]
 ·intro x y x0 x1 y0 y1
  constructor
  ·intro h
   refine ⟨⟨x0, x1⟩, ?_⟩
   -- x - y is orthogonal to all
   have rn := Ng_rng hG y
   have rd := Ar_rng hG x (Ng os y)
   have hny : ∀ z : Int, 0 ≤ z → z < vs.length → (Pr os d vs (Ng os y) z + Pr os d vs y z) % (d : Int) = 0 := fun z z0 z1 => by
    rw [← bilI hM rn.1 (by omega) y0 (by omega) z0 z1, Ar_comm, Ar_neg hG]
    exact Pr_z hM z0 z1
   have h0 := hn (Ar os x (Ng os y)) rd.1 (by omega) fun z z0 z1 => by
    rw [bilI hM x0 (by omega) rn.1 (by omega) z0 z1]
    have a1 := h z z ⟨⟨z0, by omega⟩, rfl⟩
    have a2 := hny z z0 z1
    have e : Pr os d vs x z + Pr os d vs (Ng os y) z = (Pr os d vs x z * ((1 : Nat) : Int) - Pr os d vs y z * ((1 : Nat) : Int)) + (Pr os d vs (Ng os y) z + Pr os d vs y z) := by omega
    rw [e, Int.add_emod, a1, a2]; rfl
   have e : Ar os (Ar os x (Ng os y)) y = x := by
    rw [Ar_assoc hG, Ar_comm os (Ng os y) y, Ar_neg hG, Ar_zero hG x0 x1]
   rw [h0, Ar_comm, Ar_zero hG y0 y1] at e
   exact e
  ·rintro ⟨_, rfl⟩ x' y' ⟨_, rfl⟩
   rw [Int.sub_self, Int.zero_emod]
theorem aeC_ok {os1 vs1 os2 vs2 : List Int} {D1 D2 : Int} (h : AeOk os1 D1 vs1 os2 D2 vs2) : aeC os1 D1 vs1 os2 D2 vs2 = 0 := by unfold aeC; rw [if_pos h]
theorem aeC_0 {os1 vs1 os2 vs2 : List Int} {D1 D2 : Int} (h : aeC os1 D1 vs1 os2 D2 vs2 = 0) : AeOk os1 D1 vs1 os2 D2 vs2 := by
 unfold aeC at h
 split at h
 ·rename_i h0; exact h0
 ·exfalso
  unfold noC at h
  split at h <;> omega
theorem drew_gr (w : World) (row : Option Nat) : w.grownBy w.drew row := ⟨rfl, rfl, rfl, Nat.le_refl _, fun _ _ _ => rfl⟩
theorem sml_gen {most : Int} {os vs : List Int} {q : Int} (h : Sml most os q vs) : GenM os q vs := ⟨by have := h.ok.l4; omega, by have := h.ok.lt; omega, ⟨by have := h.ok.d1; omega, by have := h.ok.d2; omega⟩⟩
set_option maxRecDepth 100000 in
set_option maxHeartbeats 8000000 in
theorem drawAre_any (w : World) (A : Option Addr) (n c : Nat) (bs : List Int) (hb : SlB w w.heap.size A n c bs) (hn : n ≤ 4096) : Calls Tryz.prog 32 #[.slice A n c] w (DTwo w) := by
 go_enter Tryz.func32, Tryz.ntmps32
 obtain ⟨W0, hW0⟩ : ∃ W0, (w.alloc (.cells #[.slice none 0 0, .int .i64 0, .slice none 0 0] 26)).alloc (.cells #[.slice none 0 0, .int .i64 0, .slice none 0 0] 26) = W0 := ⟨_, rfl⟩
 have bR : Blk W0 w.heap.size 26 #[.slice none 0 0, .int .i64 0, .slice none 0 0] := by rw [← hW0]; exact (Blk.new _ _ _).alloc _
 have bR2 : Blk W0 (w.heap.size + 1) 26 #[.slice none 0 0, .int .i64 0, .slice none 0 0] := by rw [← hW0]; exact Blk.new' _ _ _ _ (by simp)
 have k0 : Below w.heap.size w W0 := by rw [← hW0]; exact (by repeat (first | assumption | exact Below.refl _ _ | apply below_drewN | apply Below.drew | apply Below.alloc | apply Below.setCell | omega | (focus (simp; done)) | (focus (simp; omega))))
 have z0 : w.heap.size + 2 = W0.heap.size := by rw [← hW0]; simp
 have hb0 : SlB W0 W0.heap.size A n c bs := ⟨hb.len, hb.cap, hb.rng, fun h => by
  obtain ⟨b, off, e, hlt, hc⟩ := hb.at_ h
  exact ⟨b, off, e, by omega, fun k hk => (k0.cell (p := ⟨b, off + k, none⟩) hlt).trans (hc k hk)⟩⟩
 go_wp2_with fail
 clear hW0
 refine (l01From_any W0 A n c bs hb0 hn).mono ?_
 rintro e w1 ⟨S, rfl, s1⟩
 have bR := bR.below s1.below (by omega)
 have bR2 := bR2.below s1.below (by omega)
 have z1 := s1.below.size
 have hSz := s1.hS
 go_wp2_with fail
 refine (small_any W0 W0.heap.size S A n c bs hb0 (by omega) n 0 (by omega) 4 (by omega) (by omega) w1 s1 z1).mono ?_
 rintro e w2 ⟨v1, v2, os, q, vs, rfl, hR, o1, o2, ap, s2, g2⟩
 replace bR := bR.grown g2 (by simp; omega)
 replace bR2 := bR2.grown g2 (by simp; omega)
 have z2 := g2.size
 obtain ⟨A1, c1, rfl, sl1⟩ := o1.slS hR.rng1 s2
 obtain ⟨A2, c2, rfl, sl2⟩ := o2.slS hR.rng2 s2
 have l1 : LoB w1.heap.size A1 os.length := o1.loB
 have l2 : LoB w1.heap.size A2 vs.length := o2.loB
 have hG := sml_gen hR
 clear o1 o2 ap
 obtain ⟨w3, gm, hgm, hw3, hB3, hsub, bM, hgB⟩ := be_alloc (Below.refl w2.heap.size w2) 26 #[.slice none 0 0, .int .i64 0, .slice none 0 0]
 have hgS : gm ≠ S := by have := s2.lt; rw [← hgm]; omega
 have hgW : W0.heap.size ≤ gm := by rw [← hgm]; omega
 have b1 := put3_blk (x := .slice A1 os.length c1) (y := .int .i64 q) (z := .slice A2 vs.length c2) bM
 have a1 : SlS (put3 w3 gm (.slice A1 os.length c1) (.int .i64 q) (.slice A2 vs.length c2)) S A1 os.length c1 os := by
  have a1 : SlS w3 S A1 os.length c1 os := by rw [← hw3]; exact sl1.alloc _
  exact slS_put3 a1 ⟨a1.sl, fun b off sp e hn => by obtain ⟨b', off', e', hlt, _⟩ := sl1.sl.at_ hn; rw [e'] at e; injection e with e; injection e with e1; omega⟩
 have a2 : SlS (put3 w3 gm (.slice A1 os.length c1) (.int .i64 q) (.slice A2 vs.length c2)) S A2 vs.length c2 vs := by
  have a2 : SlS w3 S A2 vs.length c2 vs := by rw [← hw3]; exact sl2.alloc _
  exact slS_put3 a2 ⟨a2.sl, fun b off sp e hn => by obtain ⟨b', off', e', hlt, _⟩ := sl2.sl.at_ hn; rw [e'] at e; injection e with e; injection e with e1; omega⟩
 have t1 := put3_far (x := .slice A1 os.length c1) (y := .int .i64 q) (z := .slice A2 vs.length c2) (bR.all hB3) (show w.heap.size ≠ gm by omega)
 have t2 := put3_far (x := .slice A1 os.length c1) (y := .int .i64 q) (z := .slice A2 vs.length c2) (bR2.all hB3) (show w.heap.size + 1 ≠ gm by omega)
 have sr := ((s2.all hB3 (by omega)).put3 hgS hgW (.slice A1 os.length c1) (.int .i64 q) (.slice A2 vs.length c2)).any
 obtain ⟨W3, hW3⟩ : ∃ W3, put3 w3 gm (.slice A1 os.length c1) (.int .i64 q) (.slice A2 vs.length c2) = W3 := ⟨_, rfl⟩
 have r0 := bM.cell 0
 have r1 := bM.cell 1
 have r2 := bM.cell 2
 have f0 := bM.frozen 0
 have f1 := bM.frozen 1
 have f2 := bM.frozen 2
 rw [hW3] at b1 a1 a2 t1 t2 sr
 unfold put3 at hW3
 clear hB3 hsub bM bR bR2 s2 g2 sl1 sl2
 go_wp2_with fail
 clear hw3 hW3 r0 r1 r2 f0 f1 f2
 refine (l01Next_any W0 _ _ S A n c 0 bs hb0 (by omega) sr 4 ⟨by omega, by omega⟩).mono ?_
 rintro e w4 ⟨x, rfl, ⟨x0, x1, -⟩, s4, g4⟩
 replace x1 := x1 (by omega)
 have hRS1 : w.heap.size ≠ S := by omega
 have hRS2 : w.heap.size + 1 ≠ S := by omega
 replace b1 := b1.grown g4 (by simp; omega)
 replace t1 := t1.grown g4 (by simp; omega)
 replace t2 := t2.grown g4 (by simp; omega)
 replace a1 := a1.grown g4
 replace a2 := a2.grown g4
 have sr := s4
 have hz4 := sr.below.size
 have hlm : gm < w4.heap.size := b1.lt
 clear s4 g4 s1
 have hz1 : w.heap.size + 1 < w1.heap.size := by omega
 by_cases c0 : x = 0
 ·subst c0
  have j0 := b1.cell 0
  have j1 := b1.cell 1
  have j2 := b1.cell 2
  go_wp2_with fail
  refine wp_region_ord [0, 1, 2, 3] 3 (fun wx => wx.cell? ⟨gm, 0, none⟩ = some (.slice A1 (List.length os) c1) ∧ wx.cell? ⟨gm, 1, none⟩ = some (.int .i64 q) ∧ wx.cell? ⟨gm, 2, none⟩ = some (.slice A2 (List.length vs) c2)) (by kernel_rfl) (by kernel_rfl) (by kernel_rfl) (fun _ _ _ _ _ h => h) ⟨j0, j1, j2⟩ ?_
  repeat (apply ord_take rfl (by rfl) (by rfl); (focus (intro w hSw; (try dsimp only at hSw); go_simp; (try with_reducible rfl))); (try simp only [Act.put, List.setIfInBounds_toArray, List.set_cons_zero, List.set_cons_succ]))
  have gD := drew_gr w4 (some S)
  have sd : Src W0 W0.heap.size S A n c 0 w4.drew := sr.drewN 1
  have lz4 : W0.heap.size ≤ w4.drew.heap.size := hz4
  replace b1 := b1.grown gD (by simp; omega)
  replace t1 := t1.grown gD (by simp; omega)
  replace t2 := t2.grown gD (by simp; omega)
  replace a1 := a1.grown gD
  replace a2 := a2.grown gD
  clear j0 j1 j2 gD
  obtain ⟨w6, hw6⟩ : ∃ w6, w4.drew = w6 := ⟨_, rfl⟩
  have k6 := k0.trans (sd.below.mono (show w.heap.size ≤ W0.heap.size by omega))
  rw [hw6] at b1 t1 t2 a1 a2 k6 sd ⊢
  clear hw6
  have n1 := put3_far (x := .slice A1 (List.length os) c1) (y := .int .i64 q) (z := .slice A2 (List.length vs) c2) b1 (show gm ≠ w.heap.size by omega)
  have n2 := put3_far (x := .slice A1 (List.length os) c1) (y := .int .i64 q) (z := .slice A2 (List.length vs) c2) t2 (show w.heap.size + 1 ≠ w.heap.size by omega)
  have n3 := put3_blk (x := .slice A1 (List.length os) c1) (y := .int .i64 q) (z := .slice A2 (List.length vs) c2) t1
  have n4 := slS_low (x := .slice A1 (List.length os) c1) (y := .int .i64 q) (z := .slice A2 (List.length vs) c2) a1 l1 (show w.heap.size < w1.heap.size by omega)
  have n5 := slS_low (x := .slice A1 (List.length os) c1) (y := .int .i64 q) (z := .slice A2 (List.length vs) c2) a2 l2 (show w.heap.size < w1.heap.size by omega)
  have n6 := slS_low (x := .slice A1 (List.length os) c1) (y := .int .i64 q) (z := .slice A2 (List.length vs) c2) a1 l1 (show w.heap.size < w1.heap.size by omega)
  have n7 := slS_low (x := .slice A1 (List.length os) c1) (y := .int .i64 q) (z := .slice A2 (List.length vs) c2) a2 l2 (show w.heap.size < w1.heap.size by omega)
  have n8 := put3_below (x := .slice A1 (List.length os) c1) (y := .int .i64 q) (z := .slice A2 (List.length vs) c2) k6 (Nat.le_refl _)
  obtain ⟨W7, hW7⟩ : ∃ W7, put3 w6 w.heap.size (.slice A1 (List.length os) c1) (.int .i64 q) (.slice A2 (List.length vs) c2) = W7 := ⟨_, rfl⟩
  have r0 := t1.cell 0
  have r1 := t1.cell 1
  have r2 := t1.cell 2
  have f0 := t1.frozen 0
  have f1 := t1.frozen 1
  have f2 := t1.frozen 2
  rw [hW7] at n1 n2 n3 n4 n5 n6 n7 n8
  unfold put3 at hW7
  refine ord_do rfl (by rfl) (by rfl) (fun K hK => ?_)
  go_simp
  refine hK.out _ _ (fun _ => ⟨n1.cell 0, n1.cell 1, n1.cell 2⟩) ?_
  (try simp only [Act.put, List.setIfInBounds_toArray, List.set_cons_zero, List.set_cons_succ])
  clear hK K
  clear r0 r1 r2 f0 f1 f2 hW7
  have r0 := n2.cell 0
  have r1 := n2.cell 1
  have r2 := n2.cell 2
  have f0 := n2.frozen 0
  have f1 := n2.frozen 1
  have f2 := n2.frozen 2
  refine ord_do rfl (by rfl) (by rfl) (fun K hK => ?_)
  go_simp
  refine hK.out _ _ (fun h => absurd h (by omega)) ?_
  (try simp only [Act.put, List.setIfInBounds_toArray, List.set_cons_zero, List.set_cons_succ])
  clear hK K
  refine ord_nil ?_
  have m1 := put3_blk (x := .slice A1 (List.length os) c1) (y := .int .i64 q) (z := .slice A2 (List.length vs) c2) n2
  have m2 := put3_far (x := .slice A1 (List.length os) c1) (y := .int .i64 q) (z := .slice A2 (List.length vs) c2) n3 (show w.heap.size ≠ w.heap.size + 1 by omega)
  go_wp2_with fail
  have q0 := m1.cell 0
  have q1 := m1.cell 1
  have q2 := m1.cell 2
  have p0 := m2.cell 0
  have p1 := m2.cell 1
  have p2 := m2.cell 2
  unfold put3 at q0 q1 q2 p0 p1 p2
  refine bodyPost_ret (v := .tuple #[.agg #[.slice A1 (List.length os) c1, .int .i64 q, .slice A2 (List.length vs) c2], .agg #[.slice A1 (List.length os) c1, .int .i64 q, .slice A2 (List.length vs) c2]]) (by simp [results, Tryz.results32, go_sem, q0, q1, q2, p0, p1, p2]) rfl ?_
  exact ⟨A1, c1, A2, c2, os, q, vs, A1, c1, A2, c2, os, q, vs, rfl, hG, hG, slS_out n4 l1 (show w.heap.size + 1 < w1.heap.size by omega), slS_out n5 l2 (show w.heap.size + 1 < w1.heap.size by omega), slS_out n6 l1 (show w.heap.size + 1 < w1.heap.size by omega), slS_out n7 l2 (show w.heap.size + 1 < w1.heap.size by omega), put3_below n8 (by omega)⟩
 by_cases c1x : x = 1
 ·subst c1x
  clear c0
  have j0 := b1.cell 0
  have j1 := b1.cell 1
  have j2 := b1.cell 2
  go_wp2_with fail
  refine wp_region_ord [0, 2, 1, 3, 4] 4 (fun wx => wx.cell? ⟨gm, 0, none⟩ = some (.slice A1 (List.length os) c1) ∧ wx.cell? ⟨gm, 1, none⟩ = some (.int .i64 q) ∧ wx.cell? ⟨gm, 2, none⟩ = some (.slice A2 (List.length vs) c2)) (by kernel_rfl) (by kernel_rfl) (by kernel_rfl) (fun _ _ _ _ _ h => h) ⟨j0, j1, j2⟩ ?_
  repeat (apply ord_take rfl (by rfl) (by rfl); (focus (intro w hSw; (try dsimp only at hSw); go_simp; (try with_reducible rfl))); (try simp only [Act.put, List.setIfInBounds_toArray, List.set_cons_zero, List.set_cons_succ]))
  have gD := drew_gr w4 (some S)
  have sd : Src W0 W0.heap.size S A n c 0 w4.drew := sr.drewN 1
  have lz4 : W0.heap.size ≤ w4.drew.heap.size := hz4
  replace b1 := b1.grown gD (by simp; omega)
  replace t1 := t1.grown gD (by simp; omega)
  replace t2 := t2.grown gD (by simp; omega)
  replace a1 := a1.grown gD
  replace a2 := a2.grown gD
  clear j0 j1 j2 gD
  refine ord_do rfl (by rfl) (by rfl) (fun K hK => ?_)
  go_simp
  refine (l10Spoil_any W0 w4.drew W0.heap.size S A n c 0 bs hb0 (by omega) sd lz4).mono ?_
  rintro e w6 ⟨E1, d1, E2, d2, ps, y, us, rfl, hG2, e1, e2, ⟨lf1, lf2⟩, s6, g6⟩
  have gE := g6
  replace b1 := b1.grown gE (by simp; omega)
  replace t1 := t1.grown gE (by simp; omega)
  replace t2 := t2.grown gE (by simp; omega)
  replace a1 := a1.grown gE
  replace a2 := a2.grown gE
  clear gE g6
  refine hK.out _ _ (fun _ => ⟨b1.cell 0, b1.cell 1, b1.cell 2⟩) ?_
  (try simp only [Act.put, List.setIfInBounds_toArray, List.set_cons_zero, List.set_cons_succ])
  clear hK K
  repeat (apply ord_take rfl (by rfl) (by rfl); (focus (intro w hSw; (try dsimp only at hSw); go_simp; (try with_reducible rfl))); (try simp only [Act.put, List.setIfInBounds_toArray, List.set_cons_zero, List.set_cons_succ]))
  have k6 := k0.trans (s6.below.mono (show w.heap.size ≤ W0.heap.size by omega))
  have n1 := put3_far (x := .slice E1 (List.length ps) d1) (y := .int .i64 y) (z := .slice E2 (List.length us) d2) b1 (show gm ≠ w.heap.size by omega)
  have n2 := put3_far (x := .slice E1 (List.length ps) d1) (y := .int .i64 y) (z := .slice E2 (List.length us) d2) t2 (show w.heap.size + 1 ≠ w.heap.size by omega)
  have n3 := put3_blk (x := .slice E1 (List.length ps) d1) (y := .int .i64 y) (z := .slice E2 (List.length us) d2) t1
  have n4 := slS_low (x := .slice E1 (List.length ps) d1) (y := .int .i64 y) (z := .slice E2 (List.length us) d2) e1 lf1 (show w.heap.size < w4.drew.heap.size by omega)
  have n5 := slS_low (x := .slice E1 (List.length ps) d1) (y := .int .i64 y) (z := .slice E2 (List.length us) d2) e2 lf2 (show w.heap.size < w4.drew.heap.size by omega)
  have n6 := slS_low (x := .slice E1 (List.length ps) d1) (y := .int .i64 y) (z := .slice E2 (List.length us) d2) a1 l1 (show w.heap.size < w1.heap.size by omega)
  have n7 := slS_low (x := .slice E1 (List.length ps) d1) (y := .int .i64 y) (z := .slice E2 (List.length us) d2) a2 l2 (show w.heap.size < w1.heap.size by omega)
  have n8 := put3_below (x := .slice E1 (List.length ps) d1) (y := .int .i64 y) (z := .slice E2 (List.length us) d2) k6 (Nat.le_refl _)
  obtain ⟨W7, hW7⟩ : ∃ W7, put3 w6 w.heap.size (.slice E1 (List.length ps) d1) (.int .i64 y) (.slice E2 (List.length us) d2) = W7 := ⟨_, rfl⟩
  have r0 := t1.cell 0
  have r1 := t1.cell 1
  have r2 := t1.cell 2
  have f0 := t1.frozen 0
  have f1 := t1.frozen 1
  have f2 := t1.frozen 2
  rw [hW7] at n1 n2 n3 n4 n5 n6 n7 n8
  unfold put3 at hW7
  refine ord_do rfl (by rfl) (by rfl) (fun K hK => ?_)
  go_simp
  refine hK.out _ _ (fun _ => ⟨n1.cell 0, n1.cell 1, n1.cell 2⟩) ?_
  (try simp only [Act.put, List.setIfInBounds_toArray, List.set_cons_zero, List.set_cons_succ])
  clear hK K
  clear r0 r1 r2 f0 f1 f2 hW7
  have r0 := n2.cell 0
  have r1 := n2.cell 1
  have r2 := n2.cell 2
  have f0 := n2.frozen 0
  have f1 := n2.frozen 1
  have f2 := n2.frozen 2
  refine ord_do rfl (by rfl) (by rfl) (fun K hK => ?_)
  go_simp
  refine hK.out _ _ (fun h => absurd h (by omega)) ?_
  (try simp only [Act.put, List.setIfInBounds_toArray, List.set_cons_zero, List.set_cons_succ])
  clear hK K
  refine ord_nil ?_
  have m1 := put3_blk (x := .slice A1 (List.length os) c1) (y := .int .i64 q) (z := .slice A2 (List.length vs) c2) n2
  have m2 := put3_far (x := .slice A1 (List.length os) c1) (y := .int .i64 q) (z := .slice A2 (List.length vs) c2) n3 (show w.heap.size ≠ w.heap.size + 1 by omega)
  go_wp2_with fail
  have q0 := m1.cell 0
  have q1 := m1.cell 1
  have q2 := m1.cell 2
  have p0 := m2.cell 0
  have p1 := m2.cell 1
  have p2 := m2.cell 2
  unfold put3 at q0 q1 q2 p0 p1 p2
  refine bodyPost_ret (v := .tuple #[.agg #[.slice E1 (List.length ps) d1, .int .i64 y, .slice E2 (List.length us) d2], .agg #[.slice A1 (List.length os) c1, .int .i64 q, .slice A2 (List.length vs) c2]]) (by simp [results, Tryz.results32, go_sem, q0, q1, q2, p0, p1, p2]) rfl ?_
  exact ⟨E1, d1, E2, d2, ps, y, us, A1, c1, A2, c2, os, q, vs, rfl, hG2, hG, slS_out n4 lf1 (show w.heap.size + 1 < w4.drew.heap.size by omega), slS_out n5 lf2 (show w.heap.size + 1 < w4.drew.heap.size by omega), slS_out n6 l1 (show w.heap.size + 1 < w1.heap.size by omega), slS_out n7 l2 (show w.heap.size + 1 < w1.heap.size by omega), put3_below n8 (by omega)⟩
 by_cases c2x : x = 2
 ·subst c2x
  clear c0 c1x
  by_cases hl1 : os.length = 1
  ·have hp1i := hR.ok.pos
   have hp16 := hR.ok.p16
   have hsz := l10Size_gen w4 _ _ _ _ _ a1.sl (by omega) hR.ok.m2 hp16
   obtain ⟨P, hP⟩ : ∃ P, prodL os = P := ⟨_, rfl⟩
   rw [hP] at hsz hp1i hp16
   have hPH := hide hP
   clear hP
   have hl1i : (os.length : Int) = 1 := by omega
   have j0 := b1.cell 0
   have j1 := b1.cell 1
   have j2 := b1.cell 2
   have hLH := hide hl1
   clear hl1
   go_wp2_with fail
   refine hsz.mono ?_
   rintro e w5 ⟨rfl, dm, hdm⟩
   have g5 : w4.grownBy w5 (some S) := by rw [hdm]; exact ⟨rfl, rfl, rfl, Nat.le_refl _, fun _ _ _ => rfl⟩
   replace b1 := b1.grown g5 (by simp; omega)
   replace t1 := t1.grown g5 (by simp; omega)
   replace t2 := t2.grown g5 (by simp; omega)
   replace a1 := a1.grown g5
   replace a2 := a2.grown g5
   replace sr : Src W0 W0.heap.size S A n c 0 w5 := by rw [hdm]; exact sr.drewN dm
   have hz5 : W0.heap.size ≤ w5.heap.size := Nat.le_trans hz4 g5.size
   clear hsz hdm g5 j0 j1 j2 hl1i hz4 hlm
   have hz4 := hz5
   by_cases hP2 : P = 2
   ·subst hP2
    have j0 := b1.cell 0
    have j1 := b1.cell 1
    have j2 := b1.cell 2
    go_wp2_with fail
    refine wp_region_ord [0, 2, 1, 3, 4, 5] 5 (fun wx => wx.cell? ⟨gm, 0, none⟩ = some (.slice A1 (List.length os) c1) ∧ wx.cell? ⟨gm, 1, none⟩ = some (.int .i64 q) ∧ wx.cell? ⟨gm, 2, none⟩ = some (.slice A2 (List.length vs) c2)) (by kernel_rfl) (by kernel_rfl) (by kernel_rfl) (fun _ _ _ _ _ h => h) ⟨j0, j1, j2⟩ ?_
    repeat (apply ord_take rfl (by rfl) (by rfl); (focus (intro w hSw; (try dsimp only at hSw); go_simp; (try with_reducible rfl))); (try simp only [Act.put, List.setIfInBounds_toArray, List.set_cons_zero, List.set_cons_succ]))
    have gD := drew_gr w5 (some S)
    have sd : Src W0 W0.heap.size S A n c 0 w5.drew := sr.drewN 1
    have lz4 : W0.heap.size ≤ w5.drew.heap.size := hz4
    replace b1 := b1.grown gD (by simp; omega)
    replace t1 := t1.grown gD (by simp; omega)
    replace t2 := t2.grown gD (by simp; omega)
    replace a1 := a1.grown gD
    replace a2 := a2.grown gD
    clear j0 j1 j2 gD
    refine ord_do rfl (by rfl) (by rfl) (fun K hK => ?_)
    go_simp
    refine (l10Hyperbolic_any _ 2 (by omega) (by omega)).mono ?_
    rintro e wa ⟨v3, v4, rfl, o3, o4, ap3, hb4⟩
    have hh := hide (show Ok0 [((2 : Nat) : Int), ((2 : Nat) : Int)] ((2 : Nat) : Int) (hypTo ((2 : Nat) : Int) 2) from hyp2_ok0)
    have hr3 : ∀ x ∈ [((2 : Nat) : Int), ((2 : Nat) : Int)], i64ok x := fun x hx => by have := hyp2_ok0.m2 x hx; exact ⟨by omega, by omega⟩
    have hr4 : ∀ x ∈ hypTo ((2 : Nat) : Int) 2, i64ok x := fun x hx => by have := hyp2_ok0.rng x hx; exact ⟨by omega, by omega⟩
    replace b1 := b1.all hb4
    replace t1 := t1.all hb4
    replace t2 := t2.all hb4
    replace a1 := a1.all hb4
    replace a2 := a2.all hb4
    have sa := (sd.e.all hb4 lz4).any
    have lza : W0.heap.size ≤ wa.heap.size := Nat.le_trans lz4 hb4.size
    clear hb4 ap3 sd
    obtain ⟨A3, c3, rfl, sl3⟩ := o3.sl hr3
    obtain ⟨A4, c4, rfl, sl4⟩ := o4.sl hr4
    obtain ⟨l3, hl3⟩ : ∃ l, [((2 : Nat) : Int), ((2 : Nat) : Int)] = l := ⟨_, rfl⟩
    obtain ⟨l4, hl4⟩ : ∃ l, hypTo ((2 : Nat) : Int) 2 = l := ⟨_, rfl⟩
    rw [hl3] at sl3 hh ⊢
    rw [hl4] at sl4 hh ⊢
    obtain ⟨D3, hD3⟩ : ∃ D : Nat, D = 2 := ⟨2, rfl⟩
    rw [show ((2 : Nat) : Int) = (D3 : Int) by rw [hD3]] at hh ⊢
    have hP4 : prodL l3 = 4 := by rw [← hl3]; decide
    have hL3 : l3.length = 2 := by rw [← hl3]; decide
    have hN3 : l3 ≠ [] := by rw [← hl3]; decide
    have hd3 : 55440 % D3 = 0 := by subst hD3; decide
    have hd31 : 1 ≤ D3 := by omega
    clear hD3 hl3 hl4 o3 o4 hr3 hr4
    obtain ⟨D, hD⟩ : ∃ D : Nat, (D : Int) = q := ⟨q.toNat, by have := hR.ok.d1; omega⟩
    have hRo := hR.ok
    rw [← hD] at hRo
    obtain ⟨qq, ee, DD, e1, e2, hQ⟩ := sumQ (D1 := D3) (D2 := D) hd3 (Int.ofNat.inj (show Int.ofNat (55440 % D) = Int.ofNat 0 from hRo.dv)) (by omega) (by have := hRo.d1; omega)
    have hPs := sum_sml (most := 16) hh.out hRo hQ (by have := hLH.out; omega) (show prodL l3 * prodL os ≤ 16 by rw [hP4, hPH.out]; omega) (by omega) (fun _ h => hN3 (List.append_eq_nil_iff.1 h).1)
    have hcon := fun W A1 n1 c1 B1 m1 k1 A2 n2 c2 B2 m2 k2 a b c d => l10Sum_gen W A1 n1 c1 l3 D3 B1 m1 k1 l4 A2 n2 c2 os D B2 m2 k2 vs a b c d hh.out hRo qq ee DD e1 e2 hQ
    rw [hD] at hcon
    obtain ⟨ps, hps⟩ : ∃ p, l3 ++ os = p := ⟨_, rfl⟩
    obtain ⟨us, hus⟩ : ∃ p, sumL DD e1 e2 l4 vs = p := ⟨_, rfl⟩
    obtain ⟨y, hy⟩ : ∃ y, ((DD : Nat) : Int) = y := ⟨_, rfl⟩
    rw [hps, hus, hy] at hPs
    simp only [hps, hus, hy] at hcon
    have HC := hide hcon
    clear hcon hQ hRo hD hps hus hy hd3 hd31 hP4 hL3 hN3 hh hPH hLH
    refine hK.out _ _ (fun _ => ⟨b1.cell 0, b1.cell 1, b1.cell 2⟩) ?_
    (try simp only [Act.put, List.setIfInBounds_toArray, List.set_cons_zero, List.set_cons_succ])
    clear hK K
    repeat (apply ord_take rfl (by rfl) (by rfl); (focus (intro w hSw; (try dsimp only at hSw); go_simp; (try with_reducible rfl))); (try simp only [Act.put, List.setIfInBounds_toArray, List.set_cons_zero, List.set_cons_succ]))
    refine ord_do rfl (by rfl) (by rfl) (fun K hK => ?_)
    go_simp
    refine (HC.out _ _ _ _ _ _ _ _ _ _ _ _ _ sl3 sl4 a1.sl a2.sl).mono ?_
    rintro e w6 ⟨v5, v6, rfl, o5, o6, ap5, hb5⟩
    replace b1 := b1.all hb5
    replace t1 := t1.all hb5
    replace t2 := t2.all hb5
    replace a1 := a1.all hb5
    replace a2 := a2.all hb5
    have s6 := (sa.e.all hb5 lza).any
    clear hb5 sl3 sl4 HC ap5 sa
    obtain ⟨E1, d1, rfl, e1⟩ := o5.slS hPs.rng1 s6.e
    obtain ⟨E2, d2, rfl, e2⟩ := o6.slS hPs.rng2 s6.e
    have lf1 : LoB wa.heap.size E1 ps.length := o5.loB
    have lf2 : LoB wa.heap.size E2 us.length := o6.loB
    have hG2 := sml_gen hPs
    have k6 := k0.trans (s6.below.mono (show w.heap.size ≤ W0.heap.size by omega))
    clear o5 o6
    refine hK.out _ _ (fun _ => ⟨b1.cell 0, b1.cell 1, b1.cell 2⟩) ?_
    (try simp only [Act.put, List.setIfInBounds_toArray, List.set_cons_zero, List.set_cons_succ])
    clear hK K
    have n1 := put3_far (x := .slice A1 (List.length os) c1) (y := .int .i64 q) (z := .slice A2 (List.length vs) c2) b1 (show gm ≠ w.heap.size by omega)
    have n2 := put3_far (x := .slice A1 (List.length os) c1) (y := .int .i64 q) (z := .slice A2 (List.length vs) c2) t2 (show w.heap.size + 1 ≠ w.heap.size by omega)
    have n3 := put3_blk (x := .slice A1 (List.length os) c1) (y := .int .i64 q) (z := .slice A2 (List.length vs) c2) t1
    have n4 := slS_low (x := .slice A1 (List.length os) c1) (y := .int .i64 q) (z := .slice A2 (List.length vs) c2) a1 l1 (show w.heap.size < w1.heap.size by omega)
    have n5 := slS_low (x := .slice A1 (List.length os) c1) (y := .int .i64 q) (z := .slice A2 (List.length vs) c2) a2 l2 (show w.heap.size < w1.heap.size by omega)
    have n6 := slS_low (x := .slice A1 (List.length os) c1) (y := .int .i64 q) (z := .slice A2 (List.length vs) c2) e1 lf1 (show w.heap.size < wa.heap.size by omega)
    have n7 := slS_low (x := .slice A1 (List.length os) c1) (y := .int .i64 q) (z := .slice A2 (List.length vs) c2) e2 lf2 (show w.heap.size < wa.heap.size by omega)
    have n8 := put3_below (x := .slice A1 (List.length os) c1) (y := .int .i64 q) (z := .slice A2 (List.length vs) c2) k6 (Nat.le_refl _)
    obtain ⟨W7, hW7⟩ : ∃ W7, put3 w6 w.heap.size (.slice A1 (List.length os) c1) (.int .i64 q) (.slice A2 (List.length vs) c2) = W7 := ⟨_, rfl⟩
    have r0 := t1.cell 0
    have r1 := t1.cell 1
    have r2 := t1.cell 2
    have f0 := t1.frozen 0
    have f1 := t1.frozen 1
    have f2 := t1.frozen 2
    rw [hW7] at n1 n2 n3 n4 n5 n6 n7 n8
    unfold put3 at hW7
    refine ord_do rfl (by rfl) (by rfl) (fun K hK => ?_)
    go_simp
    refine hK.out _ _ (fun _ => ⟨n1.cell 0, n1.cell 1, n1.cell 2⟩) ?_
    (try simp only [Act.put, List.setIfInBounds_toArray, List.set_cons_zero, List.set_cons_succ])
    clear hK K
    clear r0 r1 r2 f0 f1 f2 hW7
    have r0 := n2.cell 0
    have r1 := n2.cell 1
    have r2 := n2.cell 2
    have f0 := n2.frozen 0
    have f1 := n2.frozen 1
    have f2 := n2.frozen 2
    refine ord_do rfl (by rfl) (by rfl) (fun K hK => ?_)
    go_simp
    refine hK.out _ _ (fun h => absurd h (by omega)) ?_
    (try simp only [Act.put, List.setIfInBounds_toArray, List.set_cons_zero, List.set_cons_succ])
    clear hK K
    refine ord_nil ?_
    have m1 := put3_blk (x := .slice E1 (List.length ps) d1) (y := .int .i64 y) (z := .slice E2 (List.length us) d2) n2
    have m2 := put3_far (x := .slice E1 (List.length ps) d1) (y := .int .i64 y) (z := .slice E2 (List.length us) d2) n3 (show w.heap.size ≠ w.heap.size + 1 by omega)
    go_wp2_with fail
    have q0 := m1.cell 0
    have q1 := m1.cell 1
    have q2 := m1.cell 2
    have p0 := m2.cell 0
    have p1 := m2.cell 1
    have p2 := m2.cell 2
    unfold put3 at q0 q1 q2 p0 p1 p2
    refine bodyPost_ret (v := .tuple #[.agg #[.slice A1 (List.length os) c1, .int .i64 q, .slice A2 (List.length vs) c2], .agg #[.slice E1 (List.length ps) d1, .int .i64 y, .slice E2 (List.length us) d2]]) (by simp [results, Tryz.results32, go_sem, q0, q1, q2, p0, p1, p2]) rfl ?_
    exact ⟨A1, c1, A2, c2, os, q, vs, E1, d1, E2, d2, ps, y, us, rfl, hG, hG2, slS_out n4 l1 (show w.heap.size + 1 < w1.heap.size by omega), slS_out n5 l2 (show w.heap.size + 1 < w1.heap.size by omega), slS_out n6 lf1 (show w.heap.size + 1 < wa.heap.size by omega), slS_out n7 lf2 (show w.heap.size + 1 < wa.heap.size by omega), put3_below n8 (by omega)⟩
   ·have hlm := b1.lt
    have j0 := b1.cell 0
    have j1 := b1.cell 1
    have j2 := b1.cell 2
    go_wp2_with fail
    refine wp_region_ord [0, 1, 2, 3, 4] 4 (fun wx => wx.cell? ⟨gm, 0, none⟩ = some (.slice A1 (List.length os) c1) ∧ wx.cell? ⟨gm, 1, none⟩ = some (.int .i64 q) ∧ wx.cell? ⟨gm, 2, none⟩ = some (.slice A2 (List.length vs) c2)) (by kernel_rfl) (by kernel_rfl) (by kernel_rfl) (fun _ _ _ _ _ h => h) ⟨j0, j1, j2⟩ ?_
    repeat (apply ord_take rfl (by rfl) (by rfl); (focus (intro w hSw; (try dsimp only at hSw); go_simp; (try with_reducible rfl))); (try simp only [Act.put, List.setIfInBounds_toArray, List.set_cons_zero, List.set_cons_succ]))
    have gD := drew_gr w5 (some S)
    have sd : Src W0 W0.heap.size S A n c 0 w5.drew := sr.drewN 1
    have lz4 : W0.heap.size ≤ w5.drew.heap.size := hz4
    replace b1 := b1.grown gD (by simp; omega)
    replace t1 := t1.grown gD (by simp; omega)
    replace t2 := t2.grown gD (by simp; omega)
    replace a1 := a1.grown gD
    replace a2 := a2.grown gD
    clear j0 j1 j2 gD
    refine ord_do rfl (by rfl) (by rfl) (fun K hK => ?_)
    go_simp
    refine (smallS_any W0 w5.drew W0.heap.size S A n c 0 bs hb0 (by omega) sd lz4 4 (by omega) (by omega)).mono ?_
    rintro e w6 ⟨E1, d1, E2, d2, ps, y, us, rfl, hG2, e1, e2, ⟨lf1, lf2⟩, s6, g6⟩
    have gE := g6
    replace b1 := b1.grown gE (by simp; omega)
    replace t1 := t1.grown gE (by simp; omega)
    replace t2 := t2.grown gE (by simp; omega)
    replace a1 := a1.grown gE
    replace a2 := a2.grown gE
    clear gE g6
    refine hK.out _ _ (fun _ => ⟨b1.cell 0, b1.cell 1, b1.cell 2⟩) ?_
    (try simp only [Act.put, List.setIfInBounds_toArray, List.set_cons_zero, List.set_cons_succ])
    clear hK K
    have k6 := k0.trans (s6.below.mono (show w.heap.size ≤ W0.heap.size by omega))
    have n1 := put3_far (x := .slice A1 (List.length os) c1) (y := .int .i64 q) (z := .slice A2 (List.length vs) c2) b1 (show gm ≠ w.heap.size by omega)
    have n2 := put3_far (x := .slice A1 (List.length os) c1) (y := .int .i64 q) (z := .slice A2 (List.length vs) c2) t2 (show w.heap.size + 1 ≠ w.heap.size by omega)
    have n3 := put3_blk (x := .slice A1 (List.length os) c1) (y := .int .i64 q) (z := .slice A2 (List.length vs) c2) t1
    have n4 := slS_low (x := .slice A1 (List.length os) c1) (y := .int .i64 q) (z := .slice A2 (List.length vs) c2) a1 l1 (show w.heap.size < w1.heap.size by omega)
    have n5 := slS_low (x := .slice A1 (List.length os) c1) (y := .int .i64 q) (z := .slice A2 (List.length vs) c2) a2 l2 (show w.heap.size < w1.heap.size by omega)
    have n6 := slS_low (x := .slice A1 (List.length os) c1) (y := .int .i64 q) (z := .slice A2 (List.length vs) c2) e1 lf1 (show w.heap.size < w5.drew.heap.size by omega)
    have n7 := slS_low (x := .slice A1 (List.length os) c1) (y := .int .i64 q) (z := .slice A2 (List.length vs) c2) e2 lf2 (show w.heap.size < w5.drew.heap.size by omega)
    have n8 := put3_below (x := .slice A1 (List.length os) c1) (y := .int .i64 q) (z := .slice A2 (List.length vs) c2) k6 (Nat.le_refl _)
    obtain ⟨W7, hW7⟩ : ∃ W7, put3 w6 w.heap.size (.slice A1 (List.length os) c1) (.int .i64 q) (.slice A2 (List.length vs) c2) = W7 := ⟨_, rfl⟩
    have r0 := t1.cell 0
    have r1 := t1.cell 1
    have r2 := t1.cell 2
    have f0 := t1.frozen 0
    have f1 := t1.frozen 1
    have f2 := t1.frozen 2
    rw [hW7] at n1 n2 n3 n4 n5 n6 n7 n8
    unfold put3 at hW7
    refine ord_do rfl (by rfl) (by rfl) (fun K hK => ?_)
    go_simp
    refine hK.out _ _ (fun _ => ⟨n1.cell 0, n1.cell 1, n1.cell 2⟩) ?_
    (try simp only [Act.put, List.setIfInBounds_toArray, List.set_cons_zero, List.set_cons_succ])
    clear hK K
    clear r0 r1 r2 f0 f1 f2 hW7
    have r0 := n2.cell 0
    have r1 := n2.cell 1
    have r2 := n2.cell 2
    have f0 := n2.frozen 0
    have f1 := n2.frozen 1
    have f2 := n2.frozen 2
    refine ord_do rfl (by rfl) (by rfl) (fun K hK => ?_)
    go_simp
    refine hK.out _ _ (fun h => absurd h (by omega)) ?_
    (try simp only [Act.put, List.setIfInBounds_toArray, List.set_cons_zero, List.set_cons_succ])
    clear hK K
    refine ord_nil ?_
    have m1 := put3_blk (x := .slice E1 (List.length ps) d1) (y := .int .i64 y) (z := .slice E2 (List.length us) d2) n2
    have m2 := put3_far (x := .slice E1 (List.length ps) d1) (y := .int .i64 y) (z := .slice E2 (List.length us) d2) n3 (show w.heap.size ≠ w.heap.size + 1 by omega)
    go_wp2_with fail
    have q0 := m1.cell 0
    have q1 := m1.cell 1
    have q2 := m1.cell 2
    have p0 := m2.cell 0
    have p1 := m2.cell 1
    have p2 := m2.cell 2
    unfold put3 at q0 q1 q2 p0 p1 p2
    refine bodyPost_ret (v := .tuple #[.agg #[.slice A1 (List.length os) c1, .int .i64 q, .slice A2 (List.length vs) c2], .agg #[.slice E1 (List.length ps) d1, .int .i64 y, .slice E2 (List.length us) d2]]) (by simp [results, Tryz.results32, go_sem, q0, q1, q2, p0, p1, p2]) rfl ?_
    exact ⟨A1, c1, A2, c2, os, q, vs, E1, d1, E2, d2, ps, y, us, rfl, hG, hG2, slS_out n4 l1 (show w.heap.size + 1 < w1.heap.size by omega), slS_out n5 l2 (show w.heap.size + 1 < w1.heap.size by omega), slS_out n6 lf1 (show w.heap.size + 1 < w5.drew.heap.size by omega), slS_out n7 lf2 (show w.heap.size + 1 < w5.drew.heap.size by omega), put3_below n8 (by omega)⟩
  ·have hl1i : ¬ (os.length : Int) = 1 := by omega
   have j0 := b1.cell 0
   have j1 := b1.cell 1
   have j2 := b1.cell 2
   go_upto_region 11 with fail
   clear j0 j1 j2
   have j0 := b1.cell 0
   have j1 := b1.cell 1
   have j2 := b1.cell 2
   go_wp2_with fail
   refine wp_region_ord [0, 1, 2, 3, 4] 4 (fun wx => wx.cell? ⟨gm, 0, none⟩ = some (.slice A1 (List.length os) c1) ∧ wx.cell? ⟨gm, 1, none⟩ = some (.int .i64 q) ∧ wx.cell? ⟨gm, 2, none⟩ = some (.slice A2 (List.length vs) c2)) (by kernel_rfl) (by kernel_rfl) (by kernel_rfl) (fun _ _ _ _ _ h => h) ⟨j0, j1, j2⟩ ?_
   repeat (apply ord_take rfl (by rfl) (by rfl); (focus (intro w hSw; (try dsimp only at hSw); go_simp; (try with_reducible rfl))); (try simp only [Act.put, List.setIfInBounds_toArray, List.set_cons_zero, List.set_cons_succ]))
   have gD := drew_gr w4 (some S)
   have sd : Src W0 W0.heap.size S A n c 0 w4.drew := sr.drewN 1
   have lz4 : W0.heap.size ≤ w4.drew.heap.size := hz4
   replace b1 := b1.grown gD (by simp; omega)
   replace t1 := t1.grown gD (by simp; omega)
   replace t2 := t2.grown gD (by simp; omega)
   replace a1 := a1.grown gD
   replace a2 := a2.grown gD
   clear j0 j1 j2 gD
   refine ord_do rfl (by rfl) (by rfl) (fun K hK => ?_)
   go_simp
   refine (smallS_any W0 w4.drew W0.heap.size S A n c 0 bs hb0 (by omega) sd lz4 4 (by omega) (by omega)).mono ?_
   rintro e w6 ⟨E1, d1, E2, d2, ps, y, us, rfl, hG2, e1, e2, ⟨lf1, lf2⟩, s6, g6⟩
   have gE := g6
   replace b1 := b1.grown gE (by simp; omega)
   replace t1 := t1.grown gE (by simp; omega)
   replace t2 := t2.grown gE (by simp; omega)
   replace a1 := a1.grown gE
   replace a2 := a2.grown gE
   clear gE g6
   refine hK.out _ _ (fun _ => ⟨b1.cell 0, b1.cell 1, b1.cell 2⟩) ?_
   (try simp only [Act.put, List.setIfInBounds_toArray, List.set_cons_zero, List.set_cons_succ])
   clear hK K
   have k6 := k0.trans (s6.below.mono (show w.heap.size ≤ W0.heap.size by omega))
   have n1 := put3_far (x := .slice A1 (List.length os) c1) (y := .int .i64 q) (z := .slice A2 (List.length vs) c2) b1 (show gm ≠ w.heap.size by omega)
   have n2 := put3_far (x := .slice A1 (List.length os) c1) (y := .int .i64 q) (z := .slice A2 (List.length vs) c2) t2 (show w.heap.size + 1 ≠ w.heap.size by omega)
   have n3 := put3_blk (x := .slice A1 (List.length os) c1) (y := .int .i64 q) (z := .slice A2 (List.length vs) c2) t1
   have n4 := slS_low (x := .slice A1 (List.length os) c1) (y := .int .i64 q) (z := .slice A2 (List.length vs) c2) a1 l1 (show w.heap.size < w1.heap.size by omega)
   have n5 := slS_low (x := .slice A1 (List.length os) c1) (y := .int .i64 q) (z := .slice A2 (List.length vs) c2) a2 l2 (show w.heap.size < w1.heap.size by omega)
   have n6 := slS_low (x := .slice A1 (List.length os) c1) (y := .int .i64 q) (z := .slice A2 (List.length vs) c2) e1 lf1 (show w.heap.size < w4.drew.heap.size by omega)
   have n7 := slS_low (x := .slice A1 (List.length os) c1) (y := .int .i64 q) (z := .slice A2 (List.length vs) c2) e2 lf2 (show w.heap.size < w4.drew.heap.size by omega)
   have n8 := put3_below (x := .slice A1 (List.length os) c1) (y := .int .i64 q) (z := .slice A2 (List.length vs) c2) k6 (Nat.le_refl _)
   obtain ⟨W7, hW7⟩ : ∃ W7, put3 w6 w.heap.size (.slice A1 (List.length os) c1) (.int .i64 q) (.slice A2 (List.length vs) c2) = W7 := ⟨_, rfl⟩
   have r0 := t1.cell 0
   have r1 := t1.cell 1
   have r2 := t1.cell 2
   have f0 := t1.frozen 0
   have f1 := t1.frozen 1
   have f2 := t1.frozen 2
   rw [hW7] at n1 n2 n3 n4 n5 n6 n7 n8
   unfold put3 at hW7
   refine ord_do rfl (by rfl) (by rfl) (fun K hK => ?_)
   go_simp
   refine hK.out _ _ (fun _ => ⟨n1.cell 0, n1.cell 1, n1.cell 2⟩) ?_
   (try simp only [Act.put, List.setIfInBounds_toArray, List.set_cons_zero, List.set_cons_succ])
   clear hK K
   clear r0 r1 r2 f0 f1 f2 hW7
   have r0 := n2.cell 0
   have r1 := n2.cell 1
   have r2 := n2.cell 2
   have f0 := n2.frozen 0
   have f1 := n2.frozen 1
   have f2 := n2.frozen 2
   refine ord_do rfl (by rfl) (by rfl) (fun K hK => ?_)
   go_simp
   refine hK.out _ _ (fun h => absurd h (by omega)) ?_
   (try simp only [Act.put, List.setIfInBounds_toArray, List.set_cons_zero, List.set_cons_succ])
   clear hK K
   refine ord_nil ?_
   have m1 := put3_blk (x := .slice E1 (List.length ps) d1) (y := .int .i64 y) (z := .slice E2 (List.length us) d2) n2
   have m2 := put3_far (x := .slice E1 (List.length ps) d1) (y := .int .i64 y) (z := .slice E2 (List.length us) d2) n3 (show w.heap.size ≠ w.heap.size + 1 by omega)
   go_wp2_with fail
   have q0 := m1.cell 0
   have q1 := m1.cell 1
   have q2 := m1.cell 2
   have p0 := m2.cell 0
   have p1 := m2.cell 1
   have p2 := m2.cell 2
   unfold put3 at q0 q1 q2 p0 p1 p2
   refine bodyPost_ret (v := .tuple #[.agg #[.slice A1 (List.length os) c1, .int .i64 q, .slice A2 (List.length vs) c2], .agg #[.slice E1 (List.length ps) d1, .int .i64 y, .slice E2 (List.length us) d2]]) (by simp [results, Tryz.results32, go_sem, q0, q1, q2, p0, p1, p2]) rfl ?_
   exact ⟨A1, c1, A2, c2, os, q, vs, E1, d1, E2, d2, ps, y, us, rfl, hG, hG2, slS_out n4 l1 (show w.heap.size + 1 < w1.heap.size by omega), slS_out n5 l2 (show w.heap.size + 1 < w1.heap.size by omega), slS_out n6 lf1 (show w.heap.size + 1 < w4.drew.heap.size by omega), slS_out n7 lf2 (show w.heap.size + 1 < w4.drew.heap.size by omega), put3_below n8 (by omega)⟩
 ·skip
  have j0 := b1.cell 0
  have j1 := b1.cell 1
  have j2 := b1.cell 2
  go_wp2_with fail
  refine wp_region_ord [0, 1, 2, 3, 4] 4 (fun wx => wx.cell? ⟨gm, 0, none⟩ = some (.slice A1 (List.length os) c1) ∧ wx.cell? ⟨gm, 1, none⟩ = some (.int .i64 q) ∧ wx.cell? ⟨gm, 2, none⟩ = some (.slice A2 (List.length vs) c2)) (by kernel_rfl) (by kernel_rfl) (by kernel_rfl) (fun _ _ _ _ _ h => h) ⟨j0, j1, j2⟩ ?_
  repeat (apply ord_take rfl (by rfl) (by rfl); (focus (intro w hSw; (try dsimp only at hSw); go_simp; (try with_reducible rfl))); (try simp only [Act.put, List.setIfInBounds_toArray, List.set_cons_zero, List.set_cons_succ]))
  have gD := drew_gr w4 (some S)
  have sd : Src W0 W0.heap.size S A n c 0 w4.drew := sr.drewN 1
  have lz4 : W0.heap.size ≤ w4.drew.heap.size := hz4
  replace b1 := b1.grown gD (by simp; omega)
  replace t1 := t1.grown gD (by simp; omega)
  replace t2 := t2.grown gD (by simp; omega)
  replace a1 := a1.grown gD
  replace a2 := a2.grown gD
  clear j0 j1 j2 gD
  refine ord_do rfl (by rfl) (by rfl) (fun K hK => ?_)
  go_simp
  refine (smallS_any W0 w4.drew W0.heap.size S A n c 0 bs hb0 (by omega) sd lz4 4 (by omega) (by omega)).mono ?_
  rintro e w6 ⟨E1, d1, E2, d2, ps, y, us, rfl, hG2, e1, e2, ⟨lf1, lf2⟩, s6, g6⟩
  have gE := g6
  replace b1 := b1.grown gE (by simp; omega)
  replace t1 := t1.grown gE (by simp; omega)
  replace t2 := t2.grown gE (by simp; omega)
  replace a1 := a1.grown gE
  replace a2 := a2.grown gE
  clear gE g6
  refine hK.out _ _ (fun _ => ⟨b1.cell 0, b1.cell 1, b1.cell 2⟩) ?_
  (try simp only [Act.put, List.setIfInBounds_toArray, List.set_cons_zero, List.set_cons_succ])
  clear hK K
  have k6 := k0.trans (s6.below.mono (show w.heap.size ≤ W0.heap.size by omega))
  have n1 := put3_far (x := .slice A1 (List.length os) c1) (y := .int .i64 q) (z := .slice A2 (List.length vs) c2) b1 (show gm ≠ w.heap.size by omega)
  have n2 := put3_far (x := .slice A1 (List.length os) c1) (y := .int .i64 q) (z := .slice A2 (List.length vs) c2) t2 (show w.heap.size + 1 ≠ w.heap.size by omega)
  have n3 := put3_blk (x := .slice A1 (List.length os) c1) (y := .int .i64 q) (z := .slice A2 (List.length vs) c2) t1
  have n4 := slS_low (x := .slice A1 (List.length os) c1) (y := .int .i64 q) (z := .slice A2 (List.length vs) c2) a1 l1 (show w.heap.size < w1.heap.size by omega)
  have n5 := slS_low (x := .slice A1 (List.length os) c1) (y := .int .i64 q) (z := .slice A2 (List.length vs) c2) a2 l2 (show w.heap.size < w1.heap.size by omega)
  have n6 := slS_low (x := .slice A1 (List.length os) c1) (y := .int .i64 q) (z := .slice A2 (List.length vs) c2) e1 lf1 (show w.heap.size < w4.drew.heap.size by omega)
  have n7 := slS_low (x := .slice A1 (List.length os) c1) (y := .int .i64 q) (z := .slice A2 (List.length vs) c2) e2 lf2 (show w.heap.size < w4.drew.heap.size by omega)
  have n8 := put3_below (x := .slice A1 (List.length os) c1) (y := .int .i64 q) (z := .slice A2 (List.length vs) c2) k6 (Nat.le_refl _)
  obtain ⟨W7, hW7⟩ : ∃ W7, put3 w6 w.heap.size (.slice A1 (List.length os) c1) (.int .i64 q) (.slice A2 (List.length vs) c2) = W7 := ⟨_, rfl⟩
  have r0 := t1.cell 0
  have r1 := t1.cell 1
  have r2 := t1.cell 2
  have f0 := t1.frozen 0
  have f1 := t1.frozen 1
  have f2 := t1.frozen 2
  rw [hW7] at n1 n2 n3 n4 n5 n6 n7 n8
  unfold put3 at hW7
  refine ord_do rfl (by rfl) (by rfl) (fun K hK => ?_)
  go_simp
  refine hK.out _ _ (fun _ => ⟨n1.cell 0, n1.cell 1, n1.cell 2⟩) ?_
  (try simp only [Act.put, List.setIfInBounds_toArray, List.set_cons_zero, List.set_cons_succ])
  clear hK K
  clear r0 r1 r2 f0 f1 f2 hW7
  have r0 := n2.cell 0
  have r1 := n2.cell 1
  have r2 := n2.cell 2
  have f0 := n2.frozen 0
  have f1 := n2.frozen 1
  have f2 := n2.frozen 2
  refine ord_do rfl (by rfl) (by rfl) (fun K hK => ?_)
  go_simp
  refine hK.out _ _ (fun h => absurd h (by omega)) ?_
  (try simp only [Act.put, List.setIfInBounds_toArray, List.set_cons_zero, List.set_cons_succ])
  clear hK K
  refine ord_nil ?_
  have m1 := put3_blk (x := .slice E1 (List.length ps) d1) (y := .int .i64 y) (z := .slice E2 (List.length us) d2) n2
  have m2 := put3_far (x := .slice E1 (List.length ps) d1) (y := .int .i64 y) (z := .slice E2 (List.length us) d2) n3 (show w.heap.size ≠ w.heap.size + 1 by omega)
  go_wp2_with fail
  have q0 := m1.cell 0
  have q1 := m1.cell 1
  have q2 := m1.cell 2
  have p0 := m2.cell 0
  have p1 := m2.cell 1
  have p2 := m2.cell 2
  unfold put3 at q0 q1 q2 p0 p1 p2
  refine bodyPost_ret (v := .tuple #[.agg #[.slice A1 (List.length os) c1, .int .i64 q, .slice A2 (List.length vs) c2], .agg #[.slice E1 (List.length ps) d1, .int .i64 y, .slice E2 (List.length us) d2]]) (by simp [results, Tryz.results32, go_sem, q0, q1, q2, p0, p1, p2]) rfl ?_
  exact ⟨A1, c1, A2, c2, os, q, vs, E1, d1, E2, d2, ps, y, us, rfl, hG, hG2, slS_out n4 l1 (show w.heap.size + 1 < w1.heap.size by omega), slS_out n5 l2 (show w.heap.size + 1 < w1.heap.size by omega), slS_out n6 lf1 (show w.heap.size + 1 < w4.drew.heap.size by omega), slS_out n7 lf2 (show w.heap.size + 1 < w4.drew.heap.size by omega), put3_below n8 (by omega)⟩
end Go.Proofs.YtbpihnpakolooaaGreatDoor
