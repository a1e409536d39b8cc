
/- mod5, and what the Gauss sums of a metric and its negative tell. What SumOfMetrics of both sides returns for any two metrics, and what it is where there is a sum. -/
import Derived.Test.YtnoemhmmaicakaaGSa
import Derived.Test.YtnoemhmmaicakaaPe
import Derived.Test.YtnoemhmmaicakaaMa
import Derived.Test.YtnoemhmmaicakaaNGM
import Derived.WalkLawsBesides
import Derived.Test.YtnoemhmmaicakaaX3a
namespace Go.Proofs.Ytnoemhmmaicakaa
open Go Go.RowKit Grp
set_option linter.unusedSimpArgs false
set_option linter.unusedVariables false
theorem tmod_bd (n : Int) : -55441 < n.tmod 55441 ∧ n.tmod 55441 < 55441 ∧ (n.tmod 55441 + 55441) % 55441 = n % 55441 := by
  rcases Int.lt_or_le n 0 with h | h
  · have e : n.tmod 55441 = -((-n) % 55441) := by
      have := Int.neg_tmod (-n) 55441
      rw [Int.neg_neg] at this
      rw [this, Int.tmod_eq_emod_of_nonneg (by omega)]
    rw [e]; omega
  · rw [Int.tmod_eq_emod_of_nonneg h]; omega
theorem mod5_any (w : World) (n : Int) (h0 : -1000000000000 ≤ n) (h1 : n ≤ 1000000000000) : Calls Try.prog 22 #[.int .i64 n] w (Qt w (.int .i64 (n % 55441))) := by
  obtain ⟨b1, b2, b3⟩ := tmod_bd n
  have e1 : (n.tmod 55441 + 55441).tmod 55441 = n % 55441 := by rw [Int.tmod_eq_emod_of_nonneg (by omega), b3]
  have u0 : -55441 < n.tmod 55441 ∧ n.tmod 55441 < 55441 := ⟨b1, b2⟩
  clear b1 b2 b3
  obtain ⟨t, ht⟩ : ∃ t, n.tmod 55441 = t := ⟨_, rfl⟩
  rw [ht] at e1 u0
  have u1 : IntKind.i64.wrap (t + 55441) = t + 55441 := wr64 _ ⟨by omega, by omega⟩
  have u2 : IntKind.i64.wrap t = t := wr64 _ ⟨by omega, by omega⟩
  have E1 := hide e1
  go_enter Try.func22, Try.ntmps22
  go_wp2
  go_ret
  exact Qt.mk' 0 rfl (int_eq (by first | exact E1.out | (simp [ht]; done) | skip))
theorem gsum_neg (D : Nat) (k : Int) (vs : List Int) : gsum D k (negL (D : Int) vs) = gsum D (-k) vs := by
  unfold gsum negL
  rw [List.map_map]
  congr 1
  refine List.map_congr_left fun v _ => ?_
  show rp D ((-v) % (D : Int) * k) = rp D (v * -k)
  refine rp_cg ?_
  rw [Int.mul_emod, Int.emod_emod_of_dvd _ (Int.dvd_refl _), ← Int.mul_emod, Int.neg_mul, Int.mul_neg]
theorem codeG_0 {os vs : List Int} {D k : Int} (hM : IsM os D vs) (h : inB k (-100000) 100000 = true) : codeG os D vs k = 0 := by
  unfold codeG; rw [if_pos (isM_t hM), if_pos h]
theorem gaG_val {os vs : List Int} {D k : Int} (hM : IsM os D vs) (h : inB k (-100000) 100000 = true) : gaG os D vs k = ((gsum D.toNat k vs % 55441 : Nat) : Int) := by
  unfold gaG; rw [if_pos (codeG_0 hM h)]
theorem gaG_neg {os vs : List Int} {D : Int} (hM : IsM os D vs) : gaG os D (negL D vs) 1 = gaG os D vs (-1) := by
  rw [gaG_val (neg_isM hM) (by decide), gaG_val hM (by decide)]
  obtain ⟨c1, d1, e1⟩ := ordB_dvd hM.ord
  have := gsum_neg D.toNat 1 vs
  rw [e1] at this
  rw [this]
theorem gaG_prod {os vs : List Int} {D : Int} (hM : IsM os D vs) (hn : Ndg os D vs) : (gaG os D vs 1 * gaG os D (negL D vs) 1) % 55441 = vs.length := by
  rw [gaG_neg hM, gaG_val hM (by decide), gaG_val hM (by decide)]
  have h := gauss_neg hM hn
  have h2 : Cg (((gsum D.toNat 1 vs % 55441 : Nat) : Int) * ((gsum D.toNat (-1) vs % 55441 : Nat) : Int)) vs.length := ((Cg.natMod _).mul (Cg.natMod _)).trans h
  rw [h2.emod]
  have := hM.ok.lt
  omega
theorem gaG_rng {os vs : List Int} {D k : Int} (hM : IsM os D vs) (h : inB k (-100000) 100000 = true) : 0 ≤ gaG os D vs k ∧ gaG os D vs k < 55441 := by
  rw [gaG_val hM h]; omega
theorem mul_cap {a b : Int} (a0 : 0 ≤ a) (a1 : a < 55441) (b0 : 0 ≤ b) (b1 : b < 55441) : a * b ≤ 1000000000000 :=
  Int.le_trans (Int.mul_le_mul (show a ≤ 55441 by omega) (show b ≤ 55441 by omega) b0 (by omega)) (by omega)
theorem gauss_v {os vs : List Int} {D k : Int} (hM : IsM os D vs) (hk : inB k (-100000) 100000 = true) (W : World) (A : Option Addr) (n c : Nat) (A' : Option Addr) (n' c' : Nat) (h : Sl W W.heap.size A n c os) (h' : Sl W W.heap.size A' n' c' vs) (hn : n ≤ 1048576) (hn' : n' ≤ 1048576) :
    Calls Try.prog 25 #[.agg #[.slice A n c, .int .i64 D, .slice A' n' c'], .int .i64 k] W (Re2 W (gaG os D vs k) 0) := by
  have := impl_Gauss_any W A n c os D A' n' c' vs k h h' hn hn'
  rwa [codeG_0 hM hk] at this
theorem pair_rad {os vs : List Int} {D : Int} (hM : IsM os D vs) (W : World) (A : Option Addr) (n c : Nat) (A' : Option Addr) (n' c' : Nat) (x y : Int) (h : Sl W W.heap.size A n c os) (h' : Sl W W.heap.size A' n' c' vs) (hn : n ≤ 1048576) (hn' : n' ≤ 1048576) (hx : x ∈ radM os D vs) (y0 : 0 ≤ y) (y1 : y < vs.length) :
    Calls Try.prog 7 #[.agg #[.slice A n c, .int .i64 D, .slice A' n' c'], .int .i64 x, .int .i64 y] W (Re2 W 0 0) := by
  have h16 := hM.ok.lt
  have hl := hM.ok.len
  unfold radM radL at hx
  rw [if_pos (isM_t hM)] at hx
  obtain ⟨j, hj, rfl⟩ := List.mem_map.1 hx
  obtain ⟨h1, h2⟩ := List.mem_filter.1 hj
  have h1 := List.mem_range.1 h1
  unfold radB at h2
  have h3 := List.all_eq_true.1 h2 y.toNat (List.mem_range.2 (by omega))
  rw [beq_iff_eq, Int.toNat_of_nonneg y0] at h3
  have := impl_Pair_any W A n c os D A' n' c' vs j y ⟨by omega, by omega⟩ ⟨by omega, by omega⟩ h h' hn hn'
  have hc : codeE os D vs [(j : Int), y] = 0 := by
    unfold codeE
    rw [if_pos (isM_t hM), if_pos]
    unfold allIn inB
    simp
    omega
  rwa [hc, if_pos rfl, h3] at this
/-- A sum of two metrics, where there is one. -/
structure SumOk (os : List Int) (q : Int) (vs ps : List Int) (y : Int) (us ro : List Int) (rq : Int) (rv : List Int) : Prop where
  m1 : IsM os q vs
  m2 : IsM ps y us
  m : IsM ro rq rv
  ga : ∀ k, inB k (-100000) 100000 = true → (gaG os q vs k * gaG ps y us k) % 55441 = gaG ro rq rv k
structure SumCo (os : List Int) (q : Int) (vs ps : List Int) (y : Int) (us ro : List Int) (rq : Int) (rv : List Int) (code : Int) : Prop where
  sp : ∀ (W : World) (A : Option Addr) (n c : Nat) (A' : Option Addr) (n' c' : Nat) (E : Option Addr) (k d : Nat) (E' : Option Addr) (k' d' : Nat), Sl W W.heap.size A n c os → Sl W W.heap.size A' n' c' vs → Sl W W.heap.size E k d ps → Sl W W.heap.size E' k' d' us → n ≤ 1048576 → n' ≤ 1048576 → k ≤ 1048576 → k' ≤ 1048576 →
    Calls Try.prog 34 #[.agg #[.slice A n c, .int .i64 q, .slice A' n' c'], .agg #[.slice E k d, .int .i64 y, .slice E' k' d']] W (MkM W ro rq rv code)
  im : ∀ (W : World) (A : Option Addr) (n c : Nat) (A' : Option Addr) (n' c' : Nat) (E : Option Addr) (k d : Nat) (E' : Option Addr) (k' d' : Nat), Sl W W.heap.size A n c os → Sl W W.heap.size A' n' c' vs → Sl W W.heap.size E k d ps → Sl W W.heap.size E' k' d' us → n ≤ 1048576 → n' ≤ 1048576 → k ≤ 1048576 → k' ≤ 1048576 →
    Calls Try.prog 33 #[.agg #[.slice A n c, .int .i64 q, .slice A' n' c'], .agg #[.slice E k d, .int .i64 y, .slice E' k' d']] W (MkM W ro rq rv code)
  r1 : ∀ x ∈ ro, i64ok x
  r2 : ∀ x ∈ rv, i64ok x
  l1 : ro.length ≤ 1048576
  l2 : rv.length ≤ 1048576
  ok : code = 0 → SumOk os q vs ps y us ro rq rv
theorem sumL_rng0 {D e1 e2 : Nat} {vs1 vs2 : List Int} (h1 : 1 ≤ D) (h2 : D ≤ 55440) : ∀ x ∈ sumL D e1 e2 vs1 vs2, i64ok x := by
  intro x hx
  unfold sumL sumR at hx
  obtain ⟨a, _, hx⟩ := List.mem_flatMap.1 hx
  obtain ⟨b, _, rfl⟩ := List.mem_map.1 hx
  have h3 := Int.emod_nonneg (a * (e1 : Int) + b * (e2 : Int)) (show (D : Int) ≠ 0 by omega)
  have h4 := Int.emod_lt_of_pos (a * (e1 : Int) + b * (e2 : Int)) (show 0 < (D : Int) by omega)
  exact ⟨by omega, by omega⟩
theorem noC_ne (os : List Int) (q : Int) (vs ps : List Int) (y : Int) (us : List Int) : noC os q vs ps y us ≠ 0 := by unfold noC; split <;> omega
theorem sum_cases (os : List Int) (q : Int) (vs ps : List Int) (y : Int) (us : List Int) (ho : ∀ x ∈ os, i64ok x) (hp : ∀ x ∈ ps, i64ok x) : ∃ ro rq rv code, SumCo os q vs ps y us ro rq rv code := by
  by_cases hyes : IsM os q vs ∧ IsM ps y us ∧ prodL os * prodL ps ≤ 16 ∧ os.length + ps.length ≤ 4
  · obtain ⟨hM1, hM2, hP, hL⟩ := hyes
    have hz1 := hM1.ok.d1
    have hz2 := hM1.ok.d2
    have hy1 := hM2.ok.d1
    have hy2 := hM2.ok.d2
    obtain ⟨z, rfl⟩ : ∃ m : Nat, q = (m : Int) := ⟨q.toNat, by omega⟩
    obtain ⟨y, rfl⟩ : ∃ m : Nat, y = (m : Int) := ⟨y.toNat, by omega⟩
    have hd1 : 55440 % z = 0 := Int.ofNat.inj (show Int.ofNat (55440 % z) = Int.ofNat 0 from (ordB_iff.1 hM1.ord).2)
    have hd2 : 55440 % y = 0 := Int.ofNat.inj (show Int.ofNat (55440 % y) = Int.ofNat 0 from (ordB_iff.1 hM2.ord).2)
    obtain ⟨q, e, D, e1, e2, hQ⟩ := sumQ (D1 := z) (D2 := y) hd1 hd2 (by omega) (by omega)
    have hv1 := hM1.ok.lt
    have hv2 := hM2.ok.lt
    have hm := sum_isM hM1 hM2 hQ hP hL
    refine ⟨os ++ ps, D, sumL D e1 e2 vs us, 0, fun W A n c A' n' c' E k d E' k' d' a1 a2 a3 a4 _ _ _ _ => spec_Sum_yes W A n c os z A' n' c' vs E k d ps y E' k' d' us a1 a2 a3 a4 hM1 hM2 q e D e1 e2 hQ hP hL,
      fun W A n c A' n' c' E k d E' k' d' a1 a2 a3 a4 _ _ _ _ => impl_Sum_yes W A n c os z A' n' c' vs E k d ps y E' k' d' us a1 a2 a3 a4 hM1 hM2 q e D e1 e2 hQ hP hL, ?_, sumL_rng0 hQ.b1 hQ.b, ?_, ?_, fun _ => ⟨hM1, hM2, hm, fun k hk => ?_⟩⟩
    · intro x hx
      rcases List.mem_append.1 hx with h | h
      · exact ho x h
      · exact hp x h
    · rw [List.length_append]; omega
    · rw [sumL_len]
      have : vs.length * us.length ≤ 16 * 16 := Nat.mul_le_mul hv1 hv2
      omega
    · rw [gaG_val hM1 hk, gaG_val hM2 hk, gaG_val hm hk]
      have hd1' : z ∣ 55440 := Nat.dvd_of_mod_eq_zero hd1
      have hd2' : y ∣ 55440 := Nat.dvd_of_mod_eq_zero hd2
      have h := gauss_sum hQ (by omega) (by omega) hd1' hd2' k vs us
      simp only [Int.toNat_natCast]
      have h2 := ((Cg.natMod (gsum z k vs)).mul (Cg.natMod (gsum y k us))).trans (h.symm.trans (Cg.natMod _).symm)
      rw [h2.emod]
      omega
  · exact ⟨[], 0, [], noC os q vs ps y us, fun W A2 n2 c2 A2' n2' c2' E2 k2 d2 E2' k2' d2' a1 a2 a3 a4 b1 b2 b3 b4 => (spec_Sum_no W A2 n2 c2 os q A2' n2' c2' vs E2 k2 d2 ps y E2' k2' d2' us a1 a2 a3 a4 b1 b2 b3 b4 hyes).mono fun _ _ => mkM_of_no,
      fun W A2 n2 c2 A2' n2' c2' E2 k2 d2 E2' k2' d2' a1 a2 a3 a4 b1 b2 b3 b4 => (impl_Sum_no W A2 n2 c2 os q A2' n2' c2' vs E2 k2 d2 ps y E2' k2' d2' us a1 a2 a3 a4 b1 b2 b3 b4 hyes).mono fun _ _ => mkM_of_no,
      (fun x hx => absurd hx (by simp)), (fun x hx => absurd hx (by simp)), Nat.zero_le _, Nat.zero_le _, fun h => absurd h (noC_ne _ _ _ _ _ _)⟩
end Go.Proofs.Ytnoemhmmaicakaa
