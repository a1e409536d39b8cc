
/- The negative of a metric, told plainly. -/
import Derived.Test.YtnoemhmmaicakaaMa
import Derived.Test.YtnoemhmmaicakaaCma
namespace Go.Proofs.Ytnoemhmmaicakaa
open Go Go.RowKit Grp
set_option linter.unusedSimpArgs false
set_option linter.unusedVariables false
theorem gi_map' {f : Int → Int} {xs : List Int} {k : Nat} (h : k < xs.length) : gi (xs.map f) k = f (gi xs k) := by
  unfold gi; simp [List.getD_eq_getElem?_getD, h]
theorem sub3' (a b c D : Int) : ((a % D) - (b % D) - (c % D)) % D = (a - b - c) % D := by
  have h1 : ((a % D) - (b % D)) % D = (a - b) % D := (Int.sub_emod a b D).symm
  rw [Int.sub_emod (a % D - b % D), h1, Int.emod_emod_of_dvd _ (Int.dvd_refl D), ← Int.sub_emod]
theorem Vl_neg {os vs : List Int} {D : Int} (h : OkM os D vs) {x : Int} (x0 : 0 ≤ x) (x1 : x < prodL os) : Vl (negL D vs) x = (- Vl vs x) % D := by
  have l := h.len
  unfold Vl negL
  exact gi_map' (by omega)
theorem neg_neg_mod (a D : Int) : (-(a % D)) % D = (-a) % D := by
  have := Int.sub_emod 0 (a % D) D
  rw [Int.emod_emod_of_dvd _ (Int.dvd_refl D), ← Int.sub_emod, Int.zero_sub, Int.zero_sub] at this
  exact this
theorem Pr_neg {os vs : List Int} {D : Int} (h : OkM os D vs) {x y : Int} (x0 : 0 ≤ x) (x1 : x < prodL os) (y0 : 0 ≤ y) (y1 : y < prodL os) : Pr os D (negL D vs) x y = (- Pr os D vs x y) % D := by
  obtain ⟨a0, a1⟩ := Ar_rng h.g x y
  unfold Pr
  rw [Vl_neg h x0 x1, Vl_neg h y0 y1, Vl_neg h a0 a1, sub3', neg_neg_mod]
  congr 1
  omega
theorem neg_isM {os vs : List Int} {D : Int} (hM : IsM os D vs) : IsM os D (negL D vs) := by
  have h := hM.ok
  have d1 := h.d1
  have hp := h.g.ge
  refine ⟨⟨h.g, h.d1, h.d2, by rw [negL_len]; exact h.len, fun v hv => ?_⟩, hM.ord, ?_, fun x hx => ?_, fun x y z hx hy hz => ?_⟩
  · unfold negL at hv
    obtain ⟨u, _, rfl⟩ := List.mem_map.1 hv
    exact ⟨Int.emod_nonneg _ (by omega), Int.emod_lt_of_pos _ (by omega)⟩
  · have := Vl_neg h (x := 0) (by omega) (by omega)
    have e : Vl vs 0 = gi vs 0 := rfl
    rw [e, hM.zero] at this
    have e2 : Vl (negL D vs) 0 = gi (negL D vs) 0 := rfl
    rw [← e2, this]; simp
  · obtain ⟨n0, n1⟩ := Ng_rng h.g (x : Int)
    rw [Vl_neg h n0 n1, Vl_neg h (by omega) hx, hM.neg x hx]
  · obtain ⟨a0, a1⟩ := Ar_rng h.g (x : Int) (y : Int)
    rw [Pr_neg h a0 a1 (by omega) hz, Pr_neg h (by omega) hx (by omega) hz, Pr_neg h (by omega) hy (by omega) hz, hM.bil x y z hx hy hz, neg_neg_mod, ← Int.add_emod]
    congr 1
    omega
end Go.Proofs.Ytnoemhmmaicakaa
