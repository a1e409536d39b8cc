
/- Which squares and products tell a metric with one or two orders, told plainly. No program is walked here. Which squares and products tell a metric with two orders, told plainly; the counts. No program is walked here. MetricFrom's codes with one or two orders, and the counts, told plainly. No program is walked here. A metric in a block while the law FnMetrics runs; MetricFrom at few numbers. -/
import Derived.Test.YtnoemhmmaicakaaKT1
import Derived.Test.YtnoemhmmaicakaaMF1
import Derived.Test.YtnoemhmmaicakaaMF2
namespace Go.Proofs.Ytnoemhmmaicakaa
open Go Go.RowKit Grp
set_option linter.unusedSimpArgs false
set_option linter.unusedVariables false
theorem km_wit {X Y q Z : Int} (h : X = Y + q * Z) : X % q = Y % q := by rw [h, Int.add_mul_emod_self_left]
theorem km_sub3 (A B C q : Int) : (A % q - B % q - C % q) % q = (A - B - C) % q := by
  have h1 : ((A % q) - (B % q)) % q = (A - B) % q := (Int.sub_emod A B q).symm
  rw [Int.sub_emod (A % q - B % q), h1, Int.emod_emod_of_dvd _ (Int.dvd_refl q), ← Int.sub_emod]
theorem km_dvd {x D : Int} (h : x % D = 0) : ∃ k, x = D * k := ⟨x / D, by have := Int.emod_add_mul_ediv x D; omega⟩
theorem km_zero {x D : Int} {k : Int} (h : x = D * k) : x % D = 0 := by rw [h]; exact Int.mul_emod_right _ _
theorem mod_split (x n : Int) : ∃ k, x % n = x - n * k := ⟨x / n, by have := Int.emod_add_mul_ediv x n; omega⟩
/-! ### one order -/
theorem ar1 (n x y : Int) : Ar [n] x y = (x + y) % n := by simp [Ar, addR, Int.emod_add_emod, Int.add_emod_emod]
theorem isM1_of {n a D p1 p2 : Int} {vs : List Int} (hG : OkG [n]) (hD : ordB D = true) (hlen : (vs.length : Int) = n) (hr : ∀ v ∈ vs, 0 ≤ v ∧ v < D) (hF : ∀ u : Int, 0 ≤ u → u < n → Vl vs u = a * u * u % D)
    (h1 : 2 * a * n = D * p1) (h2 : a * n * n = D * p2) : IsM [n] D vs := by
  have hn := hG.m2 n (by simp)
  have hdd := ordB_iff.1 hD
  have hp : prodL [n] = n := by simp [prodL]
  have hd2 : D ≤ 55440 := Int.le_of_dvd (by omega) (Int.dvd_of_emod_eq_zero hdd.2)
  have hV : ∀ u : Int, Vl vs (u % n) = a * u * u % D := fun u => by
    rw [hF _ (Int.emod_nonneg _ (by omega)) (Int.emod_lt_of_pos _ (by omega))]
    obtain ⟨k, hk⟩ := mod_split u n
    rw [hk]
    refine km_wit (Z := - p1 * k * u + p2 * k * k) ?_
    grind
  have hPr : ∀ x y : Int, 0 ≤ x → x < n → 0 ≤ y → y < n → Pr [n] D vs x y = 2 * a * x * y % D := fun x y x0 x1 y0 y1 => by
    unfold Pr
    rw [ar1, hV, hF x x0 x1, hF y y0 y1, km_sub3]
    congr 1
    grind
  refine ⟨⟨hG, hdd.1, hd2, by rw [hp]; exact hlen, hr⟩, hD, ?_, fun x hx => ?_, fun x y z hx hy hz => ?_⟩
  · have := hF 0 (by omega) (by omega)
    have e : Vl vs 0 = gi vs 0 := rfl
    rw [← e, this]; simp
  · rw [hp] at hx
    have e : Ng [n] (x : Int) = (n - x) % n := by
      have : Ng [n] (x : Int) = (n - (x : Int) % n) % n := by simp [Ng, negR]
      rw [this, Int.emod_eq_of_lt (by omega) hx]
    rw [e, hV, hF x (by omega) hx]
    refine km_wit (Z := p2 - p1 * x) ?_
    generalize (x : Int) = X at *
    grind
  · rw [hp] at hx hy hz
    rw [ar1]
    have r0 := Int.emod_nonneg ((x : Int) + y) (show n ≠ 0 by omega)
    have r1 := Int.emod_lt_of_pos ((x : Int) + y) (show 0 < n by omega)
    obtain ⟨k, hk⟩ := mod_split ((x : Int) + y) n
    rw [hPr _ z r0 r1 (by omega) hz, hPr x z (by omega) hx (by omega) hz, hPr y z (by omega) hy (by omega) hz, ← Int.add_emod, hk]
    refine km_wit (Z := - (p1 * k * z)) ?_
    generalize (x : Int) = X at *
    generalize (y : Int) = Y at *
    generalize (z : Int) = Z' at *
    grind
/-- Along a cyclic line of elements a metric's squares fit. -/
theorem line_nec {os vs : List Int} {D a : Int} (hM : IsM os D vs) {n : Nat} (hn : 2 ≤ n) (E : Nat → Nat) (h0 : E 0 = 0) (hlt : ∀ i, i < n → (E i : Int) < prodL os) (hs : ∀ i, i + 1 < n → Ar os (E i) (E 1) = (E (i + 1) : Nat)) (he : Ar os (E (n - 1)) (E 1) = 0)
    (hF : ∀ i, i < n → Vl vs (E i) = a * i * i % D) : (2 * a * n) % D = 0 ∧ (a * n * n) % D = 0 := by
  have hG := hM.ok.g
  have hz : ∀ x : Nat, (x : Int) < prodL os → Pr os D vs 0 x = 0 := fun x hx => by
    unfold Pr
    rw [Ar_comm, Ar_zero hG (by omega) hx]
    have e : Vl vs 0 = 0 := hM.zero
    rw [e]; simp
  have hk : ∀ k : Nat, k < n → Pr os D vs (E k) (E 1) = (k * Pr os D vs (E 1) (E 1)) % D := by
    intro k
    induction k with
    | zero => intro _; rw [h0]; have := hz (E 1) (hlt 1 (by omega)); simpa using this
    | succ k ih =>
      intro hk
      rw [← hs k (by omega), hM.bil (E k) (E 1) (E 1) (hlt k (by omega)) (hlt 1 (by omega)) (hlt 1 (by omega)), ih (by omega), Int.emod_add_emod]
      congr 1
      push_cast
      grind
  have hend : ((n : Int) * Pr os D vs (E 1) (E 1)) % D = 0 := by
    have := hM.bil (E (n - 1)) (E 1) (E 1) (hlt _ (by omega)) (hlt 1 (by omega)) (hlt 1 (by omega))
    rw [he, hz (E 1) (hlt 1 (by omega)), hk (n - 1) (by omega), Int.emod_add_emod] at this
    rw [this]
    congr 1
    have e : ((n - 1 : Nat) : Int) = (n : Int) - 1 := by omega
    rw [e]; grind
  have hP : ∃ k, Pr os D vs (E 1) (E 1) = (if n = 2 then -(2 * a) else 2 * a) + D * k := by
    have h1 := hF 1 (by omega)
    by_cases h2 : n = 2
    · subst h2
      rw [if_pos rfl]
      have he' : Ar os (E 1) (E 1) = 0 := he
      unfold Pr
      rw [he', show Vl vs 0 = 0 from hM.zero, h1]
      obtain ⟨k1, e1⟩ := mod_split (a * (1 : Nat) * (1 : Nat)) D
      rw [e1]
      obtain ⟨k2, e2⟩ := mod_split (0 - (a * ((1 : Nat) : Int) * ((1 : Nat) : Int) - D * k1) - (a * ((1 : Nat) : Int) * ((1 : Nat) : Int) - D * k1)) D
      exact ⟨2 * k1 - k2, by rw [e2]; grind⟩
    · rw [if_neg h2]
      unfold Pr
      rw [hs 1 (by omega), hF 2 (by omega), h1]
      obtain ⟨k1, e1⟩ := mod_split (a * (1 : Nat) * (1 : Nat)) D
      obtain ⟨k3, e3⟩ := mod_split (a * ((1 + 1 : Nat) : Int) * ((1 + 1 : Nat) : Int)) D
      have e3' : a * ((2 : Nat) : Int) * ((2 : Nat) : Int) % D = a * ((2 : Nat) : Int) * ((2 : Nat) : Int) - D * k3 := e3
      rw [e1, e3']
      obtain ⟨k2, e2⟩ := mod_split (a * ((2 : Nat) : Int) * ((2 : Nat) : Int) - D * k3 - (a * ((1 : Nat) : Int) * ((1 : Nat) : Int) - D * k1) - (a * ((1 : Nat) : Int) * ((1 : Nat) : Int) - D * k1)) D
      exact ⟨2 * k1 - k3 - k2, by rw [e2]; grind⟩
  have hA : (2 * a * n) % D = 0 := by
    obtain ⟨k, hk⟩ := hP
    obtain ⟨m, hm⟩ := km_dvd hend
    rw [hk] at hm
    by_cases h2 : n = 2
    · rw [if_pos h2] at hm
      exact km_zero (k := (n : Int) * k - m) (by grind)
    · rw [if_neg h2] at hm
      exact km_zero (k := m - (n : Int) * k) (by grind)
  refine ⟨hA, ?_⟩
  have hng : Ng os (E 1) = (E (n - 1) : Nat) := (Ng_unique hG (by omega) (hlt _ (by omega)) (by rw [Ar_comm]; exact he)).symm
  have hq := hM.neg (E 1) (hlt 1 (by omega))
  rw [hng, hF _ (by omega), hF 1 (by omega)] at hq
  obtain ⟨k1, e1⟩ := mod_split (a * ((n - 1 : Nat) : Int) * ((n - 1 : Nat) : Int)) D
  obtain ⟨k2, e2⟩ := mod_split (a * ((1 : Nat) : Int) * ((1 : Nat) : Int)) D
  rw [e1, e2] at hq
  obtain ⟨k3, e3⟩ := km_dvd hA
  have e : ((n - 1 : Nat) : Int) = (n : Int) - 1 := by omega
  rw [e] at hq
  exact km_zero (k := k3 + k1 - k2) (by grind)
theorem km_cast {m1 m2 : Nat} (h : 1 ≤ m1) : ((m2 * (m1 - 1) : Nat) : Int) = 0 + (m2 : Int) * ((m1 : Int) - 1) := by
  rw [Int.natCast_mul, show ((m1 - 1 : Nat) : Int) = (m1 : Int) - 1 by omega, Int.zero_add]
theorem km_alg {a b c D p1 q1 r1 r2 n1 n2 u v u' v' u2 v2 k l : Int} (h1 : 2 * a * n1 = D * p1) (h3 : 2 * b * n2 = D * q1) (h5 : c * n1 = D * r1) (h6 : c * n2 = D * r2) :
    2 * a * (u + u' - n1 * k) * u2 + 2 * b * (v + v' - n2 * l) * v2 + c * ((u + u' - n1 * k) * v2 + u2 * (v + v' - n2 * l)) = (2 * a * u * u2 + 2 * b * v * v2 + c * (u * v2 + u2 * v)) + (2 * a * u' * u2 + 2 * b * v' * v2 + c * (u' * v2 + u2 * v')) + D * (- p1 * k * u2 - q1 * l * v2 - r1 * k * v2 - r2 * l * u2) := by
  have e1 : D * (p1 * (k * u2)) = 2 * a * n1 * (k * u2) := by rw [h1]; grind
  have e2 : D * (q1 * (l * v2)) = 2 * b * n2 * (l * v2) := by rw [h3]; grind
  have e3 : D * (r1 * (k * v2)) = c * n1 * (k * v2) := by rw [h5]; grind
  have e4 : D * (r2 * (l * u2)) = c * n2 * (l * u2) := by rw [h6]; grind
  have e : D * (- p1 * k * u2 - q1 * l * v2 - r1 * k * v2 - r2 * l * u2) = - (D * (p1 * (k * u2))) - D * (q1 * (l * v2)) - D * (r1 * (k * v2)) - D * (r2 * (l * u2)) := by grind
  rw [e, e1, e2, e3, e4]
  clear e e1 e2 e3 e4 h1 h3 h5 h6
  grind
theorem dig_parts {n1 n2 u v : Int} (h2 : 1 ≤ n2) (v0 : 0 ≤ v) (v1 : v < n2) : (v + n2 * u) % n2 = v ∧ (v + n2 * u) / n2 = u := dm u v0 v1
theorem dig_of {n1 n2 x : Int} (h1 : 1 ≤ n1) (h2 : 1 ≤ n2) (x0 : 0 ≤ x) (x1 : x < n1 * n2) : ∃ u v : Int, 0 ≤ u ∧ u < n1 ∧ 0 ≤ v ∧ v < n2 ∧ x = v + n2 * u := by
  refine ⟨x / n2, x % n2, Int.ediv_nonneg x0 (by omega), Int.ediv_lt_of_lt_mul (by omega) x1, Int.emod_nonneg _ (by omega), Int.emod_lt_of_pos _ (by omega), ?_⟩
  have := Int.emod_add_mul_ediv x n2
  omega
theorem dig_lt {n1 n2 u v : Int} (h2 : 1 ≤ n2) (u0 : 0 ≤ u) (u1 : u < n1) (v0 : 0 ≤ v) (v1 : v < n2) : 0 ≤ v + n2 * u ∧ v + n2 * u < n1 * n2 := by
  have h := lt_of_digit v1 u1 h2
  rw [Int.mul_comm n1 n2]
  exact ⟨by have := Int.mul_nonneg (show 0 ≤ n2 by omega) u0; omega, h⟩
theorem ar2 {n1 n2 u v u' v' : Int} (h2 : 1 ≤ n2) (u0 : 0 ≤ u) (u1 : u < n1) (v0 : 0 ≤ v) (v1 : v < n2) (u0' : 0 ≤ u') (u1' : u' < n1) (v0' : 0 ≤ v') (v1' : v' < n2) :
    Ar [n1, n2] (v + n2 * u) (v' + n2 * u') = (v + v') % n2 + n2 * ((u + u') % n1) := by
  obtain ⟨a1, a2⟩ := dig_parts (n1 := n1) (u := u) h2 v0 v1
  obtain ⟨b1, b2⟩ := dig_parts (n1 := n1) (u := u') h2 v0' v1'
  show addR [n2, n1] _ _ = _
  simp only [addR]
  rw [a1, a2, b1, b2, Int.emod_eq_of_lt u0 u1, Int.emod_eq_of_lt u0' u1']
  simp
theorem ng2 {n1 n2 u v : Int} (h2 : 1 ≤ n2) (u0 : 0 ≤ u) (u1 : u < n1) (v0 : 0 ≤ v) (v1 : v < n2) :
    Ng [n1, n2] (v + n2 * u) = (n2 - v) % n2 + n2 * ((n1 - u) % n1) := by
  obtain ⟨a1, a2⟩ := dig_parts (n1 := n1) (u := u) h2 v0 v1
  show negR [n2, n1] _ = _
  simp only [negR]
  rw [a1, a2, Int.emod_eq_of_lt u0 u1]
  simp
/-- The values are those of a form at the digits. -/
def Fm2 (vs : List Int) (n1 n2 D a b c : Int) : Prop := ∀ u v : Int, 0 ≤ u → u < n1 → 0 ≤ v → v < n2 → Vl vs (v + n2 * u) = (a * u * u + b * v * v + c * u * v) % D
section
variable {n1 n2 a b c D p1 p2 q1 q2 r1 r2 : Int} {vs : List Int}
theorem fm_all (hn1 : 1 ≤ n1) (hn2 : 1 ≤ n2) (hF : Fm2 vs n1 n2 D a b c) (h1 : 2 * a * n1 = D * p1) (h2 : a * n1 * n1 = D * p2) (h3 : 2 * b * n2 = D * q1) (h4 : b * n2 * n2 = D * q2) (h5 : c * n1 = D * r1) (h6 : c * n2 = D * r2) (u v : Int) :
    Vl vs (v % n2 + n2 * (u % n1)) = (a * u * u + b * v * v + c * u * v) % D := by
  rw [hF _ _ (Int.emod_nonneg _ (by omega)) (Int.emod_lt_of_pos _ (by omega)) (Int.emod_nonneg _ (by omega)) (Int.emod_lt_of_pos _ (by omega))]
  obtain ⟨k, hk⟩ := mod_split u n1
  obtain ⟨l, hl⟩ := mod_split v n2
  rw [hk, hl]
  refine km_wit (Z := - p1 * k * u + p2 * k * k - q1 * l * v + q2 * l * l - r1 * k * v - r2 * l * u + r1 * k * n2 * l) ?_
  grind
theorem isM2_of (hG : OkG [n1, n2]) (hD : ordB D = true) (hlen : (vs.length : Int) = n1 * n2) (hr : ∀ v ∈ vs, 0 ≤ v ∧ v < D) (hF : Fm2 vs n1 n2 D a b c)
    (h1 : 2 * a * n1 = D * p1) (h2 : a * n1 * n1 = D * p2) (h3 : 2 * b * n2 = D * q1) (h4 : b * n2 * n2 = D * q2) (h5 : c * n1 = D * r1) (h6 : c * n2 = D * r2) : IsM [n1, n2] D vs := by
  have hn1 := hG.m2 n1 (by simp)
  have hn2 := hG.m2 n2 (by simp)
  have hdd := ordB_iff.1 hD
  have hp : prodL [n1, n2] = n1 * n2 := by simp [prodL]
  have hd2 : D ≤ 55440 := Int.le_of_dvd (by omega) (Int.dvd_of_emod_eq_zero hdd.2)
  have hV := fun u v => fm_all (by omega) (by omega) hF h1 h2 h3 h4 h5 h6 u v
  have hPr : ∀ u v u' v' : Int, 0 ≤ u → u < n1 → 0 ≤ v → v < n2 → 0 ≤ u' → u' < n1 → 0 ≤ v' → v' < n2 → Pr [n1, n2] D vs (v + n2 * u) (v' + n2 * u') = (2 * a * u * u' + 2 * b * v * v' + c * (u * v' + u' * v)) % D := fun u v u' v' x0 x1 x2 x3 y0 y1 y2 y3 => by
    unfold Pr
    rw [ar2 (by omega) x0 x1 x2 x3 y0 y1 y2 y3, hV, hF _ _ x0 x1 x2 x3, hF _ _ y0 y1 y2 y3, km_sub3]
    congr 1
    grind
  refine ⟨⟨hG, hdd.1, hd2, by rw [hp]; exact hlen, hr⟩, hD, ?_, fun x hx => ?_, fun x y z hx hy hz => ?_⟩
  · have := hF 0 0 (by omega) (by omega) (by omega) (by omega)
    have e : Vl vs (0 + n2 * 0) = gi vs 0 := by rw [Int.mul_zero]; rfl
    rw [← e, this]; simp
  · rw [hp] at hx
    obtain ⟨u, v, u0, u1, v0, v1, e⟩ := dig_of (by omega) (by omega) (show 0 ≤ (x : Int) by omega) hx
    rw [e, ng2 (by omega) u0 u1 v0 v1, hV, hF u v u0 u1 v0 v1]
    refine km_wit (Z := p2 - p1 * u + q2 - q1 * v + r1 * n2 - r1 * v - r2 * u) ?_
    grind
  · rw [hp] at hx hy hz
    obtain ⟨u, v, u0, u1, v0, v1, e⟩ := dig_of (by omega) (by omega) (show 0 ≤ (x : Int) by omega) hx
    obtain ⟨u', v', u0', u1', v0', v1', e'⟩ := dig_of (by omega) (by omega) (show 0 ≤ (y : Int) by omega) hy
    obtain ⟨u2, v2, u20, u21, v20, v21, e2⟩ := dig_of (by omega) (by omega) (show 0 ≤ (z : Int) by omega) hz
    rw [e, e', e2, ar2 (by omega) u0 u1 v0 v1 u0' u1' v0' v1',
      hPr _ _ u2 v2 (Int.emod_nonneg _ (by omega)) (Int.emod_lt_of_pos _ (by omega)) (Int.emod_nonneg _ (by omega)) (Int.emod_lt_of_pos _ (by omega)) u20 u21 v20 v21,
      hPr u v u2 v2 u0 u1 v0 v1 u20 u21 v20 v21, hPr u' v' u2 v2 u0' u1' v0' v1' u20 u21 v20 v21, ← Int.add_emod]
    obtain ⟨k, hk⟩ := mod_split (u + u') n1
    obtain ⟨l, hl⟩ := mod_split (v + v') n2
    rw [hk, hl]
    exact km_wit (Z := - p1 * k * u2 - q1 * l * v2 - r1 * k * v2 - r2 * l * u2) (km_alg h1 h3 h5 h6)
theorem isM2_nec (hM : IsM [n1, n2] D vs) (hF : Fm2 vs n1 n2 D a b c) : ((2 * a * n1) % D = 0 ∧ (a * n1 * n1) % D = 0) ∧ ((2 * b * n2) % D = 0 ∧ (b * n2 * n2) % D = 0) ∧ (c * n1) % D = 0 ∧ (c * n2) % D = 0 := by
  have hG := hM.ok.g
  have hn1 := hG.m2 n1 (by simp)
  have hn2 := hG.m2 n2 (by simp)
  have hp : prodL [n1, n2] = n1 * n2 := by simp [prodL]
  obtain ⟨m1, rfl⟩ := Int.eq_ofNat_of_zero_le (show 0 ≤ n1 by omega)
  obtain ⟨m2, rfl⟩ := Int.eq_ofNat_of_zero_le (show 0 ≤ n2 by omega)
  have hlt1 : ∀ i : Nat, i < m1 → (((m2 * i : Nat)) : Int) < prodL [(m1 : Int), (m2 : Int)] := fun i hi => by
    rw [hp]
    have := (dig_lt (n1 := (m1 : Int)) (n2 := (m2 : Int)) (u := i) (v := 0) (by omega) (by omega) (by omega) (by omega) (by omega)).2
    push_cast; omega
  have hlt2 : ∀ i : Nat, i < m2 → ((i : Nat) : Int) < prodL [(m1 : Int), (m2 : Int)] := fun i hi => by
    rw [hp]
    have := (dig_lt (n1 := (m1 : Int)) (n2 := (m2 : Int)) (u := 0) (v := i) (by omega) (by omega) (by omega) (by omega) (by omega)).2
    omega
  have c1 := line_nec hM (n := m1) (a := a) (by omega) (fun i => m2 * i) (by simp) hlt1 (fun i hi => by
      have := ar2 (n1 := (m1 : Int)) (n2 := (m2 : Int)) (u := i) (v := 0) (u' := 1) (v' := 0) (by omega) (by omega) (by omega) (by omega) (by omega) (by omega) (by omega) (by omega) (by omega)
      rw [Int.emod_eq_of_lt (a := (i : Int) + 1) (by omega) (by omega)] at this
      simp at this
      push_cast
      simpa using this)
    (by
      have := ar2 (n1 := (m1 : Int)) (n2 := (m2 : Int)) (u := (m1 : Int) - 1) (v := 0) (u' := 1) (v' := 0) (by omega) (by omega) (by omega) (by omega) (by omega) (by omega) (by omega) (by omega) (by omega)
      rw [show (m1 : Int) - 1 + 1 = m1 by omega, Int.emod_self] at this
      have e : ((m2 * (m1 - 1) : Nat) : Int) = 0 + (m2 : Int) * ((m1 : Int) - 1) := km_cast (by omega)
      have e2 : ((m2 * 1 : Nat) : Int) = 0 + (m2 : Int) * 1 := by omega
      show Ar _ ((m2 * (m1 - 1) : Nat) : Int) ((m2 * 1 : Nat) : Int) = 0
      rw [e, e2, this]; simp)
    (fun i hi => by
      have := hF i 0 (by omega) (by omega) (by omega) (by omega)
      have e : ((m2 * i : Nat) : Int) = 0 + (m2 : Int) * i := by rw [Int.natCast_mul]; omega
      show Vl vs ((m2 * i : Nat) : Int) = _
      rw [e, this]; simp)
  have c2 := line_nec hM (n := m2) (a := b) (by omega) (fun i => i) rfl hlt2 (fun i hi => by
      have := ar2 (n1 := (m1 : Int)) (n2 := (m2 : Int)) (u := 0) (v := i) (u' := 0) (v' := 1) (by omega) (by omega) (by omega) (by omega) (by omega) (by omega) (by omega) (by omega) (by omega)
      rw [Int.emod_eq_of_lt (a := (i : Int) + 1) (by omega) (by omega)] at this
      simp at this
      push_cast
      simpa using this)
    (by
      have := ar2 (n1 := (m1 : Int)) (n2 := (m2 : Int)) (u := 0) (v := (m2 : Int) - 1) (u' := 0) (v' := 1) (by omega) (by omega) (by omega) (by omega) (by omega) (by omega) (by omega) (by omega) (by omega)
      rw [show (m2 : Int) - 1 + 1 = m2 by omega, Int.emod_self] at this
      have e : ((m2 - 1 : Nat) : Int) = (m2 : Int) - 1 + (m2 : Int) * 0 := by omega
      have e2 : ((1 : Nat) : Int) = 1 + (m2 : Int) * 0 := by omega
      show Ar _ ((m2 - 1 : Nat) : Int) ((1 : Nat) : Int) = 0
      rw [e, e2, this]; simp)
    (fun i hi => by
      have := hF 0 i (by omega) (by omega) (by omega) (by omega)
      have e : ((i : Nat) : Int) = (i : Int) + (m2 : Int) * 0 := by omega
      show Vl vs ((i : Nat) : Int) = _
      rw [e, this]; simp)
  refine ⟨c1, c2, ?_⟩
  have V0 : Vl vs 0 = 0 := hM.zero
  have hPr : ∀ i j : Nat, i < m1 → j < m2 → Pr [(m1 : Int), (m2 : Int)] D vs ((m2 * i : Nat) : Int) (j : Int) = c * i * j % D := fun i j hi hj => by
    have h := ar2 (n1 := (m1 : Int)) (n2 := (m2 : Int)) (u := i) (v := 0) (u' := 0) (v' := j) (by omega) (by omega) (by omega) (by omega) (by omega) (by omega) (by omega) (by omega) (by omega)
    rw [Int.zero_add, Int.zero_add, Int.add_zero (i : Int), Int.emod_eq_of_lt (a := (i : Int)) (by omega) (by omega), Int.emod_eq_of_lt (a := (j : Int)) (by omega) (by omega), Int.mul_zero, Int.add_zero] at h
    have f1 := hF i j (by omega) (by omega) (by omega) (by omega)
    have f2 := hF i 0 (by omega) (by omega) (by omega) (by omega)
    have f3 := hF 0 j (by omega) (by omega) (by omega) (by omega)
    rw [Int.zero_add] at f2
    rw [Int.mul_zero, Int.add_zero] at f3
    unfold Pr
    rw [Int.natCast_mul, h, f1, f2, f3, km_sub3]
    congr 1
    grind
  constructor
  · have hb := hM.bil (m2 * (m1 - 1)) (m2 * 1) 1 (hlt1 _ (by omega)) (hlt1 1 (by omega)) (hlt2 1 (by omega))
    have he : Ar [(m1 : Int), (m2 : Int)] ((m2 * (m1 - 1) : Nat) : Int) ((m2 * 1 : Nat) : Int) = 0 := by
      have := ar2 (n1 := (m1 : Int)) (n2 := (m2 : Int)) (u := (m1 : Int) - 1) (v := 0) (u' := 1) (v' := 0) (by omega) (by omega) (by omega) (by omega) (by omega) (by omega) (by omega) (by omega) (by omega)
      rw [show (m1 : Int) - 1 + 1 = m1 by omega, Int.emod_self] at this
      have e : ((m2 * (m1 - 1) : Nat) : Int) = 0 + (m2 : Int) * ((m1 : Int) - 1) := km_cast (by omega)
      have e2 : ((m2 * 1 : Nat) : Int) = 0 + (m2 : Int) * 1 := by omega
      rw [e, e2, this]; simp
    rw [he, hPr (m1 - 1) 1 (by omega) (by omega), hPr 1 1 (by omega) (by omega), ← Int.add_emod] at hb
    have h0 : Pr [(m1 : Int), (m2 : Int)] D vs 0 ((1 : Nat) : Int) = 0 := by
      unfold Pr
      rw [Ar_comm, Ar_zero hG (by omega) (hlt2 1 (by omega)), V0]; simp
    rw [h0] at hb
    rw [hb]
    congr 1
    have : ((m1 - 1 : Nat) : Int) = (m1 : Int) - 1 := by omega
    rw [this]; grind
  · have hb := hM.bil (m2 - 1) 1 (m2 * 1) (hlt2 _ (by omega)) (hlt2 1 (by omega)) (hlt1 1 (by omega))
    have he : Ar [(m1 : Int), (m2 : Int)] ((m2 - 1 : Nat) : Int) ((1 : Nat) : Int) = 0 := by
      have := ar2 (n1 := (m1 : Int)) (n2 := (m2 : Int)) (u := 0) (v := (m2 : Int) - 1) (u' := 0) (v' := 1) (by omega) (by omega) (by omega) (by omega) (by omega) (by omega) (by omega) (by omega) (by omega)
      rw [show (m2 : Int) - 1 + 1 = m2 by omega, Int.emod_self] at this
      have e : ((m2 - 1 : Nat) : Int) = (m2 : Int) - 1 + (m2 : Int) * 0 := by omega
      have e2 : ((1 : Nat) : Int) = 1 + (m2 : Int) * 0 := by omega
      rw [e, e2, this]; simp
    have hcm : ∀ x y : Int, Pr [(m1 : Int), (m2 : Int)] D vs x y = Pr [(m1 : Int), (m2 : Int)] D vs y x := fun x y => by
      unfold Pr; rw [Ar_comm]; congr 1; omega
    rw [he, hcm ((m2 - 1 : Nat) : Int), hcm ((1 : Nat) : Int) ((m2 * 1 : Nat) : Int), hPr 1 (m2 - 1) (by omega) (by omega), hPr 1 1 (by omega) (by omega), ← Int.add_emod] at hb
    have h0 : Pr [(m1 : Int), (m2 : Int)] D vs 0 ((m2 * 1 : Nat) : Int) = 0 := by
      unfold Pr
      rw [Ar_comm, Ar_zero hG (by omega) (hlt1 1 (by omega)), V0]; simp
    rw [h0] at hb
    rw [hb]
    congr 1
    have : ((m2 - 1 : Nat) : Int) = (m2 : Int) - 1 := by omega
    rw [this]; grind
end
theorem gi_fromL {os : List Int} {D : Int} {sq pr : List Int} {K k : Nat} (h : k < K) : gi (fromL os D sq pr K) k = fA (Dg os k) sq pr % D := by
  unfold gi fromL; simp [List.getD_eq_getElem?_getD, h]
theorem mfC_iff {os : List Int} {D : Int} {sq pr : List Int} (h : frm os D sq pr = true) : mfC os D sq pr = 0 ↔ IsM os D (valsF os D sq pr) := by
  unfold mfC
  rw [if_pos h]
  constructor
  · intro h'
    split at h'
    · rename_i h2; exact isM_iff.1 h2
    · omega
  · intro h'
    rw [if_pos (isM_t h')]
theorem allIn_of {lo hi : Int} {xs : List Int} (h : ∀ x ∈ xs, lo ≤ x ∧ x ≤ hi) : allIn lo hi xs = true := by
  unfold allIn
  refine List.all_eq_true.2 fun x hx => ?_
  unfold inB
  exact decide_eq_true (h x hx)
theorem kmB_iff {D n a : Nat} : kmB D n a = true ↔ (2 * (a : Int) * n) % D = 0 ∧ ((a : Int) * n * n) % D = 0 := by
  unfold kmB
  rw [Bool.and_eq_true, beq_iff_eq, beq_iff_eq]
  have e1 : (2 * (a : Int) * n) % D = ((2 * a * n % D : Nat) : Int) := by simp
  have e2 : ((a : Int) * n * n) % D = ((a * n * n % D : Nat) : Int) := by simp
  rw [e1, e2]
  omega
theorem mf1 {n D a : Nat} (hG : OkG [(n : Int)]) (hD : ordB D = true) (ha : a < D) : mfC [(n : Int)] D [(a : Int)] [] = 0 ↔ kmB D n a = true := by
  have hn := hG.m2 n (by simp)
  have hdd := ordB_iff.1 hD
  have hp : prodL [(n : Int)] = n := by simp [prodL]
  have hf : frm [(n : Int)] D [(a : Int)] [] = true := frm_t (okG_iff.2 hG) hD rfl rfl (allIn_of fun x hx => by simp at hx; omega) (allIn_of fun x hx => by cases hx)
  rw [mfC_iff hf, kmB_iff]
  have hlen : (valsF [(n : Int)] D [(a : Int)] []).length = n := by unfold valsF; rw [fromL_len, hp]; rfl
  have hF : ∀ u : Int, 0 ≤ u → u < n → Vl (valsF [(n : Int)] D [(a : Int)] []) u = (a : Int) * u * u % D := fun u u0 u1 => by
    obtain ⟨k, rfl⟩ := Int.eq_ofNat_of_zero_le u0
    unfold Vl valsF
    rw [Int.toNat_natCast, gi_fromL (by rw [hp]; omega)]
    have hDg : Dg [(n : Int)] (k : Int) = [(k : Int)] := by
      simp [Dg, digR]; exact Int.emod_eq_of_lt (by omega) u1
    rw [hDg]
    simp [fA, fS, fP, rowF]
  constructor
  · intro hM
    refine line_nec hM (n := n) (by omega) (fun i => i) rfl (fun i hi => by rw [hp]; omega) (fun i hi => ?_) ?_ (fun i hi => hF i (by omega) (by omega))
    · rw [ar1]
      show ((i : Int) + ((1 : Nat) : Int)) % n = _
      rw [Int.emod_eq_of_lt (by omega) (by omega)]; push_cast; rfl
    · rw [ar1]
      show (((n - 1 : Nat) : Int) + ((1 : Nat) : Int)) % n = _
      rw [show ((n - 1 : Nat) : Int) + ((1 : Nat) : Int) = n by omega, Int.emod_self]
  · rintro ⟨h1, h2⟩
    obtain ⟨p1, e1⟩ := km_dvd h1
    obtain ⟨p2, e2⟩ := km_dvd h2
    exact isM1_of hG hD (by rw [hlen]) (fun v hv => fromL_rng hdd.1 v hv) hF e1 e2
/-- Products that fit two orders. -/
def kmP (D n1 n2 c : Nat) : Bool := (c * n1) % D == 0 && (c * n2) % D == 0
theorem kmP_iff {D n1 n2 c : Nat} : kmP D n1 n2 c = true ↔ ((c : Int) * n1) % D = 0 ∧ ((c : Int) * n2) % D = 0 := by
  unfold kmP
  rw [Bool.and_eq_true, beq_iff_eq, beq_iff_eq]
  have e1 : ((c : Int) * n1) % D = ((c * n1 % D : Nat) : Int) := by simp
  have e2 : ((c : Int) * n2) % D = ((c * n2 % D : Nat) : Int) := by simp
  rw [e1, e2]
  omega
theorem mf2 {n1 n2 D a b c : Nat} (hG : OkG [(n1 : Int), (n2 : Int)]) (hD : ordB D = true) (ha : a < D) (hb : b < D) (hc : c < D) :
    mfC [(n1 : Int), (n2 : Int)] D [(a : Int), (b : Int)] [(c : Int)] = 0 ↔ kmB D n1 a = true ∧ kmB D n2 b = true ∧ kmP D n1 n2 c = true := by
  have hn1 := hG.m2 n1 (by simp)
  have hn2 := hG.m2 n2 (by simp)
  have hdd := ordB_iff.1 hD
  have hp : prodL [(n1 : Int), (n2 : Int)] = n1 * n2 := by simp [prodL]
  have hf : frm [(n1 : Int), (n2 : Int)] D [(a : Int), (b : Int)] [(c : Int)] = true := frm_t (okG_iff.2 hG) hD rfl rfl
    (allIn_of fun x hx => by simp at hx; omega) (allIn_of fun x hx => by simp at hx; omega)
  rw [mfC_iff hf, kmB_iff, kmB_iff, kmP_iff]
  have hlen : ((valsF [(n1 : Int), (n2 : Int)] D [(a : Int), (b : Int)] [(c : Int)]).length : Int) = n1 * n2 := by
    unfold valsF; rw [fromL_len, hp, Int.toNat_of_nonneg (Int.mul_nonneg (by omega) (by omega))]
  have hF : Fm2 (valsF [(n1 : Int), (n2 : Int)] D [(a : Int), (b : Int)] [(c : Int)]) n1 n2 D a b c := fun u v u0 u1 v0 v1 => by
    have hl := dig_lt (n1 := (n1 : Int)) (n2 := (n2 : Int)) (by omega) u0 u1 v0 v1
    obtain ⟨d1, d2⟩ := dig_parts (n1 := (n1 : Int)) (n2 := (n2 : Int)) (u := u) (by omega) v0 v1
    obtain ⟨k, hk⟩ := Int.eq_ofNat_of_zero_le hl.1
    rw [hk] at hl d1 d2 ⊢
    unfold Vl valsF
    rw [Int.toNat_natCast, gi_fromL (by rw [hp]; omega)]
    have hDg : Dg [(n1 : Int), (n2 : Int)] (k : Int) = [u, v] := by
      show (digR [(n2 : Int), (n1 : Int)] (k : Int)).reverse = _
      simp only [digR]
      rw [d1, d2, Int.emod_eq_of_lt u0 u1]
      rfl
    rw [hDg]
    simp only [fA, fS, fP, rowF, List.drop]
    congr 1
    grind
  constructor
  · intro hM
    exact isM2_nec hM hF
  · rintro ⟨⟨h1, h2⟩, ⟨h3, h4⟩, h5, h6⟩
    obtain ⟨p1, e1⟩ := km_dvd h1
    obtain ⟨p2, e2⟩ := km_dvd h2
    obtain ⟨q1, e3⟩ := km_dvd h3
    obtain ⟨q2, e4⟩ := km_dvd h4
    obtain ⟨r1, e5⟩ := km_dvd h5
    obtain ⟨r2, e6⟩ := km_dvd h6
    exact isM2_of hG hD hlen (fun v hv => fromL_rng hdd.1 v hv) hF e1 e2 e3 e4 e5 e6
def kmQ (D n1 n2 : Nat) : Nat → Nat
  | 0 => 0
  | k + 1 => if kmP D n1 n2 k = true then kmQ D n1 n2 k + 1 else kmQ D n1 n2 k
theorem kmQ_le (D n1 n2 : Nat) : ∀ k, kmQ D n1 n2 k ≤ k
  | 0 => Nat.le_refl _
  | k + 1 => by have := kmQ_le D n1 n2 k; unfold kmQ; split <;> omega
theorem kmQ_chk : ((List.range 17).all fun D => (List.range 17).all fun n1 => (List.range 17).all fun n2 => D == 0 || n1 == 0 || n2 == 0 || kmQ D n1 n2 D == Nat.gcd (Nat.gcd n1 n2) D) = true := by decide +kernel
theorem kmQ_gcd {D n1 n2 : Nat} (h1 : 1 ≤ D) (h2 : D ≤ 16) (a1 : 1 ≤ n1) (a2 : n1 ≤ 16) (b1 : 1 ≤ n2) (b2 : n2 ≤ 16) : kmQ D n1 n2 D = Nat.gcd (Nat.gcd n1 n2) D := by
  have := List.all_eq_true.1 (List.all_eq_true.1 (List.all_eq_true.1 kmQ_chk D (List.mem_range.2 (by omega))) n1 (List.mem_range.2 (by omega))) n2 (List.mem_range.2 (by omega))
  simp only [Bool.or_eq_true, beq_iff_eq] at this
  omega
theorem kmV1 {n D : Nat} (hG : OkG [(n : Int)]) (hD : ordB D = true) (h16 : D ≤ 16) : kmV [(n : Int)] D = (kmN D n D : Nat) := by
  unfold kmV
  rw [okG_iff.2 hG, hD]
  simp only [Bool.and_self, if_true, kmR, kmG, Int.toNat_natCast]
  have := kmN_le D n D
  rw [Int.one_mul, wr64 _ ⟨by omega, by omega⟩]
theorem kmV2 {n1 n2 D : Nat} (hG : OkG [(n1 : Int), (n2 : Int)]) (hD : ordB D = true) (h16 : D ≤ 16) : kmV [(n1 : Int), (n2 : Int)] D = ((kmN D n1 D * kmN D n2 D : Nat) : Int) * (kmQ D n1 n2 D : Nat) := by
  have hn1 := hG.m2 n1 (by simp)
  have hn2 := hG.m2 n2 (by simp)
  have hm1 := hG.m16 n1 (by simp)
  have hm2 := hG.m16 n2 (by simp)
  have hdd := ordB_iff.1 hD
  rw [kmQ_gcd (by omega) h16 (by omega) (by omega) (by omega) (by omega)]
  unfold kmV
  rw [okG_iff.2 hG, hD]
  simp only [Bool.and_self, if_true, kmR, kmG, Int.toNat_natCast]
  have h1 := kmN_le D n1 D
  have h2 := kmN_le D n2 D
  have hg := Nat.gcd_le_right (Nat.gcd n1 n2) (show 0 < D by omega)
  obtain ⟨x, hx⟩ : ∃ x, kmN D n1 D = x := ⟨_, rfl⟩
  obtain ⟨y, hy⟩ : ∃ y, kmN D n2 D = y := ⟨_, rfl⟩
  obtain ⟨g, hg'⟩ : ∃ g, Nat.gcd (Nat.gcd n1 n2) D = g := ⟨_, rfl⟩
  rw [hx] at h1
  rw [hy] at h2
  rw [hg'] at hg
  rw [hx, hy, hg']
  have a1 : x * g ≤ 16 * 16 := Nat.mul_le_mul (by omega) (by omega)
  have a2 : x * g * y ≤ 16 * 16 * 16 := Nat.mul_le_mul a1 (by omega)
  rw [Int.one_mul, wr64 (x : Int) ⟨by omega, by omega⟩, show (x : Int) * (g : Int) = ((x * g : Nat) : Int) by simp, wr64 ((x * g : Nat) : Int) ⟨by omega, by omega⟩, show ((x * g : Nat) : Int) * (y : Int) = ((x * g * y : Nat) : Int) by simp, wr64 _ ⟨by omega, by omega⟩]
  rw [show ((x * y : Nat) : Int) * (g : Int) = ((x * y * g : Nat) : Int) by simp]
  congr 1
  rw [Nat.mul_right_comm]
/-- A metric lies in block M; what lay before the law lies as it lay. -/
structure GK (w : World) (M : Nat) (A1 : Option Addr) (c1 : Nat) (A2 : Option Addr) (c2 : Nat) (os : List Int) (q : Int) (vs : List Int) (wx : World) : Prop where
  b : Blk wx M 26 #[.slice A1 os.length c1, .int .i64 q, .slice A2 vs.length c2]
  s1 : Sl wx wx.heap.size A1 os.length c1 os
  s2 : Sl wx wx.heap.size A2 vs.length c2 vs
  kk : Below w.heap.size w wx
section
variable {w wx wy : World} {M : Nat} {A1 A2 : Option Addr} {c1 c2 : Nat} {os vs : List Int} {q : Int}
theorem GK.all (h : GK w M A1 c1 A2 c2 os q vs wx) (hb : Below wx.heap.size wx wy) : GK w M A1 c1 A2 c2 os q vs wy :=
  ⟨h.b.all hb, (h.s1.below hb).more hb.size, (h.s2.below hb).more hb.size, h.kk.trans (hb.mono h.kk.size)⟩
theorem GK.new {A1 A2 : Option Addr} (s1 : Sl wx wx.heap.size A1 os.length c1 os) (s2 : Sl wx wx.heap.size A2 vs.length c2 vs) (kk : Below w.heap.size w wx) :
    GK w wx.heap.size A1 c1 A2 c2 os q vs (wx.alloc (.cells #[.slice A1 os.length c1, .int .i64 q, .slice A2 vs.length c2] 26)) :=
  have hb : Below wx.heap.size wx (wx.alloc (.cells #[.slice A1 os.length c1, .int .i64 q, .slice A2 vs.length c2] 26)) := (Below.refl _ _).alloc (Nat.le_refl _) _
  ⟨Blk.new _ _ _, (s1.below hb).more hb.size, (s2.below hb).more hb.size, kk.trans (hb.mono kk.size)⟩
end
theorem slk1 (W : World) (g : Nat) (v : Int) (hg : W.heap.size = g) (hv : i64ok v) : Sl (W.alloc (.cells #[.int .i64 v] 2)) (W.alloc (.cells #[.int .i64 v] 2)).heap.size (some ⟨g, 0, none⟩) 1 1 [v] :=
  have h : Blk (W.alloc (.cells #[.int .i64 v] 2)) g 2 #[.int .i64 v] := Blk.new' _ _ _ _ hg
  ⟨rfl, Nat.le_refl _, by simpa using hv, fun _ => ⟨g, 0, rfl, h.lt, fun k hk => by
    obtain rfl : k = 0 := by omega
    exact h.cell 0⟩, fun h => by cases h⟩
theorem slk2 (W : World) (g : Nat) (v u : Int) (hg : W.heap.size = g) (hv : i64ok v) (hu : i64ok u) : Sl (W.alloc (.cells #[.int .i64 v, .int .i64 u] 2)) (W.alloc (.cells #[.int .i64 v, .int .i64 u] 2)).heap.size (some ⟨g, 0, none⟩) 2 2 [v, u] :=
  have h : Blk (W.alloc (.cells #[.int .i64 v, .int .i64 u] 2)) g 2 #[.int .i64 v, .int .i64 u] := Blk.new' _ _ _ _ hg
  ⟨rfl, Nat.le_refl _, fun x hx => by
    rcases List.mem_cons.1 hx with rfl | hx
    · exact hv
    · rw [List.mem_singleton.1 hx]; exact hu, fun _ => ⟨g, 0, rfl, h.lt, fun k hk => by
    rcases (show k = 0 ∨ k = 1 by omega) with rfl | rfl
    · exact h.cell 0
    · exact h.cell 1⟩, fun h => by cases h⟩
/-- It returned some metric and a code. -/
def MkA (w : World) (code : Int) (e : Ending) (w' : World) : Prop := ∃ G1 n1 e1 m G2 n2 e2, e = .returned (.tuple #[.agg #[.slice G1 n1 e1, .int .i64 m, .slice G2 n2 e2], .int .i64 code]) ∧ Below w.heap.size w w'
theorem mkA_of {w : World} {os vs : List Int} {q code : Int} {e : Ending} {w' : World} (h : MkM w os q vs code e w') (r1 : ∀ x ∈ os, i64ok x) (r2 : ∀ x ∈ vs, i64ok x) : MkA w code e w' := by
  obtain ⟨v1, v2, rfl, o1, o2, -, hb⟩ := h
  obtain ⟨G1, e1, rfl, -⟩ := o1.sl r1
  obtain ⟨G2, e2, rfl, -⟩ := o2.sl r2
  exact ⟨_, _, _, _, _, _, _, rfl, hb⟩
theorem mf_call (W : World) (A : Option Addr) (n c : Nat) (os : List Int) (D : Int) (hd1 : 1 ≤ D) (hd2 : D ≤ 55440) (A' : Option Addr) (n' c' : Nat) (sq : List Int) (A'' : Option Addr) (n'' c'' : Nat) (pr : List Int) (h : Sl W W.heap.size A n c os) (h' : Sl W W.heap.size A' n' c' sq) (h'' : Sl W W.heap.size A'' n'' c'' pr)
    (hn : n ≤ 1048576) (hn' : n' ≤ 1048576) (hn'' : n'' ≤ 1048576) : Calls Try.prog 14 #[.slice A n c, .int .i64 D, .slice A' n' c', .slice A'' n'' c''] W (MkA W (mfC os D sq pr)) := by
  refine (impl_Mf_any W A n c os D A' n' c' sq A'' n'' c'' pr h h' h'' hn hn' hn'').mono fun e w' hm => mkA_of hm ?_ ?_
  · intro x hx
    unfold gF at hx
    split at hx
    · exact h.rng x hx
    · cases hx
  · intro x hx
    unfold gF at hx
    split at hx
    · have := fromL_rng hd1 x hx
      exact ⟨by omega, by omega⟩
    · cases hx
end Go.Proofs.Ytnoemhmmaicakaa
