
/- Cyclic metrics are metrics: told by algebra. -/
import Derived.Test.YtneflhachjlmkaaI5
import Derived.Test.YtneflhachjlmkaaFR
import Derived.Test.YtneflhachjlmkaaW5
namespace Go.Proofs.Ytneflhachjlmkaa
open Go Go.RowKit Grp
set_option linter.unusedSimpArgs false
set_option linter.unusedVariables false

theorem mod_wit {X Y q Z : Int} (h : X = Y + q * Z) : X % q = Y % q := by rw [h, Int.add_mul_emod_self_left]
theorem sub3 (A B C q : Int) : (A % q - B % q - C % q) % q = (A - B - C) % q := by
  have a1 := Int.emod_add_mul_ediv A q
  have a2 := Int.emod_add_mul_ediv B q
  have a3 := Int.emod_add_mul_ediv C q
  refine mod_wit (Z := B / q + C / q - A / q) ?_
  grind
theorem cyc_q {n : Nat} {q : Int} (hq : q = if (n : Int) % 2 = 0 then 2 * (n : Int) else n) : ∃ k l : Int, 2 * (n : Int) = q * k ∧ (n : Int) * n = q * l := by
  split at hq
  · refine ⟨1, (n : Int) / 2, by omega, ?_⟩
    obtain ⟨m, hm⟩ : ∃ m : Int, (n : Int) / 2 = m := ⟨_, rfl⟩
    have : (n : Int) = 2 * m := by omega
    rw [hm, hq, this]; grind
  · exact ⟨2, n, by omega, by rw [hq]⟩
theorem cyc_gi {a q : Int} {n k : Nat} (hk : k < n) : gi (cycTo a q n) k = a * (k : Int) * k % q := by
  unfold cycTo gi
  simp [List.getD_eq_getElem?_getD, hk]
theorem cyc_V {a q : Int} {n : Nat} (hn : 1 ≤ n) {k l : Int} (h1 : 2 * (n : Int) = q * k) (h2 : (n : Int) * n = q * l) (t : Int) : Vl (cycTo a q n) (t % n) = a * t * t % q := by
  have r0 := Int.emod_nonneg t (show (n : Int) ≠ 0 by omega)
  have r1 := Int.emod_lt_of_pos t (show 0 < (n : Int) by omega)
  have hd := Int.emod_add_mul_ediv t n
  obtain ⟨m, hm⟩ : ∃ m, t / (n : Int) = m := ⟨_, rfl⟩
  rw [hm] at hd
  obtain ⟨r, hr⟩ := Int.eq_ofNat_of_zero_le r0
  rw [hr] at r1 hd ⊢
  unfold Vl
  rw [Int.toNat_natCast, cyc_gi (by omega)]
  refine (mod_wit (Z := a * (r * m * k + l * m * m)) ?_).symm
  rw [← hd]
  generalize (n : Int) = N at *
  generalize (r : Int) = R at *
  grind
theorem cyc_bilA {n : Nat} {a q : Int} (h2 : 2 ≤ n) (hq : q = if (n : Int) % 2 = 0 then 2 * (n : Int) else n) : BilM [(n : Int)] q (cycTo a q n) := by
  obtain ⟨k, l, e1, e2⟩ := cyc_q hq
  have hV := cyc_V (a := a) (q := q) (n := n) (by omega) e1 e2
  have hVx : ∀ x : Nat, (x : Int) < n → Vl (cycTo a q n) x = a * x * x % q := fun x hx => by
    have := hV (x : Int)
    rwa [Int.emod_eq_of_lt (by omega) hx] at this
  have hAr : ∀ x y : Int, Ar [(n : Int)] x y = (x + y) % n := fun x y => by simp [Ar, addR, Int.emod_add_emod, Int.add_emod_emod]
  have hNg : ∀ x : Int, Ng [(n : Int)] x = (n - x) % n := fun x => by
    have a1 := Int.emod_add_mul_ediv x n
    have : Ng [(n : Int)] x = (n - x % n) % n := by simp [Ng, negR]
    rw [this]
    refine mod_wit (Z := x / n) ?_
    omega
  have hPr : ∀ x y : Nat, (x : Int) < n → (y : Int) < n → Pr [(n : Int)] q (cycTo a q n) x y = 2 * a * x * y % q := fun x y hx hy => by
    unfold Pr
    rw [hAr, hV, hVx x hx, hVx y hy, sub3]
    congr 1
    grind
  have hp : prodL [(n : Int)] = n := by simp [prodL]
  rw [BilM]
  rw [hp]
  refine ⟨fun x hx => ?_, fun x y z hx hy hz => ?_⟩
  · rw [hNg, hV, hVx x hx]
    refine mod_wit (Z := a * (l - k * x)) ?_
    generalize (n : Int) = N at *
    generalize (x : Int) = X at *
    grind
  · rw [hAr]
    have r0 := Int.emod_nonneg ((x : Int) + y) (show (n : Int) ≠ 0 by omega)
    have r1 := Int.emod_lt_of_pos ((x : Int) + y) (show 0 < (n : Int) by omega)
    have hd := Int.emod_add_mul_ediv ((x : Int) + y) n
    obtain ⟨m, hm⟩ : ∃ m, ((x : Int) + y) / (n : Int) = m := ⟨_, rfl⟩
    rw [hm] at hd
    obtain ⟨r, hr⟩ := Int.eq_ofNat_of_zero_le r0
    rw [hr] at r1 hd ⊢
    rw [hPr r z r1 hz, hPr x z hx hz, hPr y z hy hz, ← Int.add_emod]
    refine mod_wit (Z := - (a * k * m * z)) ?_
    generalize (n : Int) = N at *
    generalize (x : Int) = X at *
    generalize (y : Int) = Y at *
    generalize (z : Int) = Z' at *
    generalize (r : Int) = R at *
    grind
/-- Squares alone tell a cyclic metric. -/
theorem fromL_cyc {n : Nat} {a q : Int} : fromL [(n : Int)] q [a % q] [] n = cycTo a q n := by
  unfold fromL cycTo
  refine List.map_congr_left fun x hx => ?_
  have hx := List.mem_range.1 hx
  have hD : Dg [(n : Int)] (x : Int) = [(x : Int)] := by
    simp [Dg, digR]
    exact Int.emod_eq_of_lt (by omega) (by omega)
  have a1 := Int.emod_add_mul_ediv a q
  rw [hD]
  simp only [fA, fS, fP, rowF, Int.add_zero]
  refine mod_wit (Z := -(a / q * x * x)) ?_
  generalize (x : Int) = X at *
  grind
end Go.Proofs.Ytneflhachjlmkaa
