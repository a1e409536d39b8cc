
/- The walk of the law FnExactSumOfMetrics. -/
import Derived.Test.YtmnljlefjafcdaaLMM
import Derived.Test.YtmnljlefjafcdaaX4
import Derived.WalkLawsBesides
namespace Go.Proofs.Ytmnljlefjafcdaa
open Go Go.RowKit Grp
set_option linter.unusedSimpArgs false
set_option linter.unusedVariables false
theorem sumL_rng {D e1 e2 : Nat} {vs1 vs2 : List Int} (h1 : 1 ≤ D) (h2 : D ≤ 55440) : ∀ x ∈ sumL D e1 e2 vs1 vs2, i64ok x := by
  intro x hx
  unfold sumL sumR at hx
  obtain ⟨a, _, hx⟩ := List.mem_flatMap.1 hx
  obtain ⟨b, _, rfl⟩ := List.mem_map.1 hx
  have h3 := Int.emod_nonneg (a * (e1 : Int) + b * (e2 : Int)) (show (D : Int) ≠ 0 by omega)
  have h4 := Int.emod_lt_of_pos (a * (e1 : Int) + b * (e2 : Int)) (show 0 < (D : Int) by omega)
  exact ⟨by omega, by omega⟩
theorem i64_lists {a b : List Int} (ha : ∀ x ∈ a, i64ok x) (hb : ∀ x ∈ b, i64ok x) : ∀ x ∈ a ++ b, i64ok x := by
  intro x hx
  rcases List.mem_append.1 hx with h | h
  · exact ha x h
  · exact hb x h
theorem law_SumOfMetrics {w : World} (A : Option Addr) (n c : Nat) (os : List Int) (z : Int) (A' : Option Addr) (n' c' : Nat) (vs : List Int) (h0 : SlIn w A n c os) (h1 : SlIn w A' n' c' vs) (hz : i64ok z)
    (E : Option Addr) (k d : Nat) (ps : List Int) (y : Int) (E' : Option Addr) (k' d' : Nat) (us : List Int) (i0 : SlIn w E k d ps) (i1 : SlIn w E' k' d' us) (hy : i64ok y) :
    Calls Try.prog 7 #[.agg #[.slice A n c, .int .i64 z, .slice A' n' c'], .agg #[.slice E k d, .int .i64 y, .slice E' k' d']] w (Re w (.bool true)) := by
  by_cases hyes : IsM os z vs ∧ IsM ps y us ∧ prodL os * prodL ps ≤ 16 ∧ os.length + ps.length ≤ 4
  · obtain ⟨hM1, hM2, hP, hL⟩ := hyes
    have hz1 := hM1.ok.d1
    have hy1 := hM2.ok.d1
    have hz2 := hM1.ok.d2
    have hy2 := hM2.ok.d2
    obtain ⟨z, rfl⟩ : ∃ m : Nat, z = (m : Int) := ⟨z.toNat, by omega⟩
    obtain ⟨y, rfl⟩ : ∃ m : Nat, y = (m : Int) := ⟨y.toNat, by omega⟩
    have hd1 : 55440 % z = 0 := Int.ofNat.inj (show Int.ofNat (55440 % z) = Int.ofNat 0 from (ordB_iff.1 hM1.ord).2)
    have hd2 : 55440 % y = 0 := Int.ofNat.inj (show Int.ofNat (55440 % y) = Int.ofNat 0 from (ordB_iff.1 hM2.ord).2)
    obtain ⟨q, e, D, e1, e2, hQ⟩ := sumQ (D1 := z) (D2 := y) hd1 hd2 (by omega) (by omega)
    have hv1 := hM1.ok.lt
    have hv2 := hM2.ok.lt
    refine law_Sum_core A n c os z A' n' c' vs h0 h1 hz E k d ps y E' k' d' us i0 i1 hy (os ++ ps) (sumL D e1 e2 vs us) D 0 ?_ ?_ ?_ ?_ ?_ ?_
    · exact fun W A n c A' n' c' E k d E' k' d' a1 a2 a3 a4 _ _ _ _ => spec_Sum_yes W A n c os z A' n' c' vs E k d ps y E' k' d' us a1 a2 a3 a4 hM1 hM2 q e D e1 e2 hQ hP hL
    · exact fun W A n c A' n' c' E k d E' k' d' a1 a2 a3 a4 _ _ _ _ => impl_Sum_yes W A n c os z A' n' c' vs E k d ps y E' k' d' us a1 a2 a3 a4 hM1 hM2 q e D e1 e2 hQ hP hL
    · exact i64_lists h0.sl.rng i0.sl.rng
    · exact sumL_rng hQ.b1 hQ.b
    · show (os ++ ps).length ≤ 1048576
      rw [List.length_append]; omega
    · show (sumL D e1 e2 vs us).length ≤ 1048576
      rw [sumL_len]
      have : vs.length * us.length ≤ 16 * 16 := Nat.mul_le_mul hv1 hv2
      omega
  · refine law_Sum_core A n c os z A' n' c' vs h0 h1 hz E k d ps y E' k' d' us i0 i1 hy [] [] 0 (noC os z vs ps y us) ?_ ?_ ?_ ?_ ?_ ?_
    · exact fun W A2 n2 c2 A2' n2' c2' E2 k2 d2 E2' k2' d2' a1 a2 a3 a4 b1 b2 b3 b4 => (spec_Sum_no W A2 n2 c2 os z A2' n2' c2' vs E2 k2 d2 ps y E2' k2' d2' us a1 a2 a3 a4 b1 b2 b3 b4 hyes).mono fun _ _ => mkM_of_no
    · exact fun W A2 n2 c2 A2' n2' c2' E2 k2 d2 E2' k2' d2' a1 a2 a3 a4 b1 b2 b3 b4 => (impl_Sum_no W A2 n2 c2 os z A2' n2' c2' vs E2 k2 d2 ps y E2' k2' d2' us a1 a2 a3 a4 b1 b2 b3 b4 hyes).mono fun _ _ => mkM_of_no
    · exact fun x hx => by cases hx
    · exact fun x hx => by cases hx
    · exact Nat.zero_le _
    · exact Nat.zero_le _
end Go.Proofs.Ytmnljlefjafcdaa
