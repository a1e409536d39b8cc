
/- Standard metrics: cyclic ones and hyperbolic ones are metrics that squares and products tell. -/
import Derived.Test.YtneflhachjlmkaaCZ
import Derived.Test.YtneflhachjlmkaaL1
import Derived.Test.YtneflhachjlmkaaMF1
import Derived.Test.YtneflhachjlmkaaR2
import Derived.Test.YtneflhachjlmkaaP4
namespace Go.Proofs.Ytneflhachjlmkaa
open Go Go.RowKit Grp
set_option linter.unusedSimpArgs false
set_option linter.unusedVariables false

/-- What is to be looked at for one metric. -/
def bilChk (os : List Int) (D : Int) (vs : List Int) : Bool :=
  ((List.range (prodL os).toNat).all fun x => decide (Vl vs (Ng os x) = Vl vs x)) &&
  (List.range (prodL os).toNat).all fun x => (List.range (prodL os).toNat).all fun y => (List.range (prodL os).toNat).all fun z => decide (Pr os D vs (Ar os x y) z = (Pr os D vs x z + Pr os D vs y z) % D)
theorem isM_chk {os vs : List Int} {D : Int} (h1 : okG os = true) (h2 : ordB D = true) (h3 : (vs.length : Int) = prodL os) (h4 : allIn 0 (D - 1) vs = true) (h5 : gi vs 0 = 0) (h6 : bilChk os D vs = true) : isM os D vs = true := by
  rw [bilChk, Bool.and_eq_true] at h6
  obtain ⟨a, b⟩ := h6
  have hd : 1 ≤ D ∧ D ≤ 55440 := by
    have := h2
    simp only [ordB, decide_eq_true_eq] at this
    exact ⟨this.1, Int.le_of_dvd (by omega) (Int.dvd_of_emod_eq_zero this.2)⟩
  have hr : ∀ x : Nat, (x : Int) < prodL os → x ∈ List.range (prodL os).toNat := fun x hx => List.mem_range.2 (by omega)
  refine isM_iff.2 ⟨⟨okG_iff.1 h1, hd.1, hd.2, h3, fun v hv => by have := allIn_mem h4 v hv; omega⟩, h2, h5, fun x hx => ?_, fun x y z hx hy hz => ?_⟩
  · simpa using List.all_eq_true.1 a x (hr x hx)
  · simpa using List.all_eq_true.1 (List.all_eq_true.1 (List.all_eq_true.1 b x (hr x hx)) y (hr y hy)) z (hr z hz)
theorem hyp_facts (n : Nat) (h2 : 2 ≤ n) (h4 : n ≤ 4) :
    mfC [(n : Int), n] n [0, 0] [1] = 0 ∧ valsF [(n : Int), n] n [0, 0] [1] = hypAt n (n * n) ∧ codeM [(n : Int), n] n (hypAt n (n * n)) = 0 ∧ codeG [(n : Int), n] n (hypAt n (n * n)) 1 = 0 ∧ gaG [(n : Int), n] n (hypAt n (n * n)) 1 = n ∧ ndgM [(n : Int), n] n (hypAt n (n * n)) = true := by
  have : n = 2 ∨ n = 3 ∨ n = 4 := by omega
  have hf : frm [(n : Int), n] n [0, 0] [1] = true := by rcases this with rfl | rfl | rfl <;> decide +kernel
  have hv : valsF [(n : Int), n] n [0, 0] [1] = hypAt n (n * n) := by rcases this with rfl | rfl | rfl <;> decide +kernel
  have hm : isM [(n : Int), n] n (hypAt n (n * n)) = true := by
    rcases this with rfl | rfl | rfl <;> exact isM_chk (by decide +kernel) (by decide +kernel) (by decide +kernel) (by decide +kernel) (by decide +kernel) (by decide +kernel)
  have hc : codeG [(n : Int), n] n (hypAt n (n * n)) 1 = 0 := by unfold codeG; rw [if_pos hm, if_pos (by decide)]
  refine ⟨?_, hv, ?_, hc, ?_, ?_⟩
  · unfold mfC; rw [if_pos hf, hv, if_pos hm]
  · unfold codeM; rw [if_pos hm]
  · unfold gaG; rw [if_pos hc]; rcases this with rfl | rfl | rfl <;> decide +kernel
  · unfold ndgM; rw [hm, Bool.true_and, decide_eq_true_eq]; rcases this with rfl | rfl | rfl <;> decide +kernel
theorem cyc_facts (n : Nat) (a q : Int) (h2 : 2 ≤ n) (h16 : n ≤ 16) (ho : ordB q = true) (hq : q = if (n : Int) % 2 = 0 then 2 * (n : Int) else n) :
    mfC [(n : Int)] q [a % q] [] = 0 ∧ valsF [(n : Int)] q [a % q] [] = cycTo a q n ∧ isM [(n : Int)] q (cycTo a q n) = true := by
  have hq1 : 1 ≤ q := by split at hq <;> omega
  have hq2 : q ≤ 55440 := by split at hq <;> omega
  have hp : prodL [(n : Int)] = n := by simp [prodL]
  have hg : okG [(n : Int)] = true := by simp [okG]; omega
  have hb := cyc_bilA (a := a) h2 hq
  have hv : valsF [(n : Int)] q [a % q] [] = cycTo a q n := by unfold valsF; rw [hp, Int.toNat_natCast]; exact fromL_cyc
  have r0 := Int.emod_nonneg a (show q ≠ 0 by omega)
  have r1 := Int.emod_lt_of_pos a (show 0 < q by omega)
  have hm : isM [(n : Int)] q (cycTo a q n) = true := by
    refine isM_iff.2 ⟨⟨okG_iff.1 hg, hq1, hq2, by rw [hp]; simp [cycTo], fun v hv => ?_⟩, ho, ?_, hb.1, hb.2⟩
    · unfold cycTo at hv
      obtain ⟨j, _, rfl⟩ := List.mem_map.1 hv
      exact ⟨Int.emod_nonneg _ (by omega), Int.emod_lt_of_pos _ (by omega)⟩
    · rw [cyc_gi (by omega)]; simp
  refine ⟨?_, hv, hm⟩
  unfold mfC
  rw [if_pos (frm_t (sq := [a % q]) (pr := []) hg ho rfl rfl (by simp [allIn, inB]; omega) rfl), hv, if_pos hm]
theorem mfC_isM {os sq pr : List Int} {D : Int} (h : mfC os D sq pr = 0) : isM os D (valsF os D sq pr) = true := by
  unfold mfC at h
  split at h
  · split at h
    · assumption
    · cases h
  · cases h
end Go.Proofs.Ytneflhachjlmkaa
