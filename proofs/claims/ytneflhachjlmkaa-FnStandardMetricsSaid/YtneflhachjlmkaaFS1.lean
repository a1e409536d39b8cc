
/- The contracts of both sides of the law on standard metrics, told as one. -/
import Derived.Test.YtneflhachjlmkaaSMP
import Derived.Test.YtneflhachjlmkaaL2
import Derived.Test.YtneflhachjlmkaaMF2
import Derived.Test.YtneflhachjlmkaaD6
namespace Go.Proofs.Ytneflhachjlmkaa
open Go Go.RowKit Grp
set_option linter.unusedSimpArgs false
set_option linter.unusedVariables false
theorem SlB.keep {w w' : World} {B B' : Nat} {A : Option Addr} {n c : Nat} {xs : List Int} (h : SlB w B A n c xs) (hb : Below B w w') (hB : B ≤ B') : SlB w' B' A n c xs :=
  ⟨h.len, h.cap, h.rng, fun h0 => by
    obtain ⟨b, off, e, hlt, hc⟩ := h.at_ h0
    exact ⟨b, off, e, by omega, fun k hk => (hb.cell (p := ⟨b, off + k, none⟩) hlt).trans (hc k hk)⟩⟩
theorem cyc_both (n a : Int) (hn : i64ok n) (ha : i64ok a) : ∃ os q vs code,
    Hid (∀ W, Calls Try.prog 74 #[.int .i64 n, .int .i64 a] W (MkM W os q vs code)) ∧ Hid (∀ W, Calls Try.prog 73 #[.int .i64 n, .int .i64 a] W (MkM W os q vs code)) ∧
    (os.length ≤ 64 ∧ vs.length ≤ 64 ∧ (∀ x ∈ os, i64ok x) ∧ (∀ x ∈ vs, i64ok x)) ∧ (code = 0 → os = [n] ∧ 1 ≤ q ∧ q ≤ 1000 ∧ a.tmod q = a % q ∧ mfC [n] q [a % q] [] = 0 ∧ valsF [n] q [a % q] [] = vs ∧ isM os q vs = true) := by
  by_cases h : 2 ≤ n ∧ n ≤ 16 ∧ 0 ≤ a ∧ a ≤ 2 * n - 1
  · obtain ⟨k, rfl⟩ := Int.eq_ofNat_of_zero_le (show 0 ≤ n by omega)
    obtain ⟨q, hq⟩ : ∃ q, q = if (k : Int) % 2 = 0 then 2 * (k : Int) else k := ⟨_, rfl⟩
    have hq1 : 1 ≤ q ∧ q ≤ 32 := by rw [hq]; split <;> omega
    refine ⟨_, _, _, _, hide fun W => spec_Cyclic_any W k a q (by omega) (by omega) (by omega) (by omega) hq, hide fun W => impl_Cyclic_any W k a q (by omega) (by omega) (by omega) (by omega) hq, ?_, ?_⟩
    · split
      · refine ⟨by simp, by rw [cycTo_len]; omega, fun x hx => ?_, cycTo_rng _ _ _ hq1.1 (by omega)⟩
        simp at hx; subst hx; exact ⟨by omega, by omega⟩
      · simp
    · split
      case isTrue ho =>
        intro _
        obtain ⟨f1, f2, f3⟩ := cyc_facts k a q (by omega) (by omega) ho hq
        exact ⟨rfl, hq1.1, by omega, Int.tmod_eq_emod_of_nonneg (by omega), f1, f2, f3⟩
      case isFalse => intro h; cases h
  · exact ⟨[], 0, [], 2, hide fun W => (spec_Cyclic_no W n a hn h).mono fun _ _ => mkM_of_no, hide fun W => (impl_Cyclic_no W n a hn h).mono fun _ _ => mkM_of_no, by simp, fun h => by cases h⟩
theorem hyp_both (n : Int) (hn : i64ok n) : ∃ os q vs code,
    Hid (∀ W, Calls Try.prog 77 #[.int .i64 n] W (MkM W os q vs code)) ∧ Hid (∀ W, Calls Try.prog 76 #[.int .i64 n] W (MkM W os q vs code)) ∧
    (os.length ≤ 64 ∧ vs.length ≤ 64 ∧ (∀ x ∈ os, i64ok x) ∧ (∀ x ∈ vs, i64ok x)) ∧ (code = 0 → os = [n, n] ∧ q = n ∧ 2 ≤ n ∧ n ≤ 4 ∧ mfC [n, n] n [0, 0] [1] = 0 ∧ valsF [n, n] n [0, 0] [1] = vs ∧ codeM [n, n] n vs = 0 ∧ codeG [n, n] n vs 1 = 0 ∧ gaG [n, n] n vs 1 = n ∧ ndgM [n, n] n vs = true) := by
  by_cases h : 2 ≤ n ∧ n ≤ 4
  · obtain ⟨k, rfl⟩ := Int.eq_ofNat_of_zero_le (show 0 ≤ n by omega)
    have h2 : 2 ≤ k := by omega
    have h4 : k ≤ 4 := by omega
    have hkk : k * k ≤ 16 := Nat.mul_le_mul h4 h4
    obtain ⟨f1, f2, f3, f4, f5, f6⟩ := hyp_facts k h2 h4
    refine ⟨[(k : Int), k], k, hypAt k (k * k), 0, hide fun W => ?_, hide fun W => impl_Hyperbolic_any W k h2 h4, ⟨by simp, by rw [hypAt_len]; omega, ?_, hypAt_rng _ _ h2 h4⟩, fun _ => ⟨rfl, rfl, h.1, h.2, f1, f2, f3, f4, f5, f6⟩⟩
    · rw [← hyp_same k h2 h4]; exact spec_Hyperbolic_any W k h2 h4
    · intro x hx; simp at hx; subst hx; exact ⟨by omega, by omega⟩
  · exact ⟨[], 0, [], 2, hide fun W => (spec_Hyperbolic_no W n h).mono fun _ _ => mkM_of_no, hide fun W => (impl_Hyperbolic_no W n h).mono fun _ _ => mkM_of_no, by simp, fun h => by cases h⟩
/-- What MetricFrom tells in three lists of the right kind. -/
theorem mf_rng {os sq pr : List Int} {D : Int} (ho : ∀ x ∈ os, i64ok x) (hl : os.length ≤ 64) :
    (∀ x ∈ gF (mfC os D sq pr) os, i64ok x) ∧ (∀ x ∈ gF (mfC os D sq pr) (valsF os D sq pr), i64ok x) ∧ (gF (mfC os D sq pr) os).length ≤ 64 ∧ (gF (mfC os D sq pr) (valsF os D sq pr)).length ≤ 64 := by
  by_cases hc : mfC os D sq pr = 0
  · have hM := isM_iff.1 (mfC_isM hc)
    rw [hc, gF_0, gF_0]
    refine ⟨ho, fun x hx => ?_, hl, ?_⟩
    · have := hM.ok.rng x hx
      have h2 := hM.ok.d2
      exact ⟨by omega, by omega⟩
    · have := hM.ok.len
      have := hM.ok.g.p16
      omega
  · rw [gF_n hc, gF_n hc]; simp
end Go.Proofs.Ytneflhachjlmkaa
