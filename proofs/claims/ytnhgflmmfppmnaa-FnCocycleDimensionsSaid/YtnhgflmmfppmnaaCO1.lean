
/- Pairings: plain facts; the walks of isPairing of both sides, of the codes of orders. -/
import Derived.Test.YtnhgflmmfppmnaaCI2
import Derived.Test.YtnhgflmmfppmnaaCS2
namespace Go.Proofs.Ytnhgflmmfppmnaa
open Go Go.RowKit Grp
set_option linter.unusedSimpArgs false
set_option linter.unusedVariables false
set_option maxRecDepth 100000
/-- Number y of row x. -/
def gf (f : List (List Int)) (x y : Nat) : Int := gi (f.getD x []) y
/-- Where the rows of a square table lie, and its numbers. -/
structure Vw (w : World) (B n b off : Nat) (b1 o1 c1 : Nat → Nat) (f : Nat → Nat → Int) : Prop where
  hb : b < B
  h1 : ∀ i, i < n → w.cell? ⟨b, off + i, none⟩ = some (.slice (some ⟨b1 i, o1 i, none⟩) n (c1 i)) ∧ b1 i < B
  h2 : ∀ i j, i < n → j < n → w.cell? ⟨b1 i, o1 i + j, none⟩ = some (.int .i64 (f i j))
theorem Vw.keep {w w' : World} {B B' n b off : Nat} {b1 o1 c1 : Nat → Nat} {f : Nat → Nat → Int} (h : Vw w B n b off b1 o1 c1 f) (hb : Below B w w') (hB : B ≤ B') : Vw w' B' n b off b1 o1 c1 f :=
  ⟨Nat.lt_of_lt_of_le h.hb hB, fun i hi => ⟨(hb.cell (p := ⟨b, off + i, none⟩) h.hb).trans (h.h1 i hi).1, Nat.lt_of_lt_of_le (h.h1 i hi).2 hB⟩,
   fun i j hi hj => (hb.cell (p := ⟨b1 i, o1 i + j, none⟩) (h.h1 i hi).2).trans (h.h2 i j hi hj)⟩
theorem vw_of {w : World} {B : Nat} {A : Option Addr} {n c : Nat} {f : List (List Int)} (h : Sl2 w B A n c f) (hpos : 0 < n) (hrow : ∀ r ∈ f, r.length = n) :
    ∃ b off b1 o1 c1, A = some ⟨b, off, none⟩ ∧ Vw w B n b off b1 o1 c1 (gf f) := by
  obtain ⟨b, off, rfl, hb⟩ := RdL.addr h hpos
  have hn := h.len
  have k1 : ∀ i, i < n → ∃ z : Nat × Nat × Nat, w.cell? ⟨b, off + i, none⟩ = some (.slice (some ⟨z.1, z.2.1, none⟩) n z.2.2) ∧ z.1 < B ∧ Sl w B (some ⟨z.1, z.2.1, none⟩) n z.2.2 (f.getD i []) := by
    intro i hi
    obtain ⟨r, hr⟩ := get_at (xs := f) (k := i) (by omega)
    obtain ⟨A', n', c', h1, h2⟩ := h.row hr
    have hrl := hrow r (get_mem hr)
    have hl := h2.len
    obtain rfl : n' = n := by omega
    obtain ⟨b', off', rfl, hb'⟩ := Sl.addr h2 hpos
    refine ⟨(b', off', c'), h1, hb', ?_⟩
    rw [getD_of hr]
    exact h2
  obtain ⟨z, hz⟩ := Go.Deep.choose_lt k1
  exact ⟨b, off, fun i => (z i).1, fun i => (z i).2.1, fun i => (z i).2.2, rfl, hb, fun i hi => ⟨(hz i hi).1, (hz i hi).2.1⟩, fun i j hi hj => (hz i hi).2.2.row hj⟩
structure IsPr (n : Nat) (M : Int) (f : List (List Int)) : Prop where
  mat : MatM n M f
  z1 : ∀ x, x < n → gf f 0 x = 0
  z2 : ∀ x, x < n → gf f x 0 = 0
open Classical in
noncomputable def prB (n : Nat) (M : Int) (f : List (List Int)) : Bool := decide (IsPr n M f)
theorem prB_t {n : Nat} {M : Int} {f : List (List Int)} (h : IsPr n M f) : prB n M f = true := by simp [prB, h]
theorem prB_f {n : Nat} {M : Int} {f : List (List Int)} (h : ¬ IsPr n M f) : prB n M f = false := by simp [prB, h]
theorem prB_iff {n : Nat} {M : Int} {f : List (List Int)} : prB n M f = true ↔ IsPr n M f := by simp [prB]
theorem gf_of {f : List (List Int)} {i j : Nat} {r : List Int} (h : f[i]? = some r) : gf f i j = gi r j := by unfold gf; rw [getD_of h]
theorem MatM.rng {n : Nat} {M : Int} {f : List (List Int)} (h : MatM n M f) {i j : Nat} (hi : i < n) (hj : j < n) : 0 ≤ gf f i j ∧ gf f i j ≤ M - 1 := by
  obtain ⟨r, hr⟩ := get_at (xs := f) (k := i) (by rw [h.1]; exact hi)
  have h1 := h.2 r (get_mem hr)
  rw [gf_of hr]
  exact h1.2 _ (gi_mem (by rw [h1.1]; exact hj))
theorem not_pr_row {n : Nat} {M : Int} {f : List (List Int)} {r : List Int} {k : Nat} (h : f[k]? = some r) (hl : r.length ≠ n) : prB n M f = false := prB_f fun hc => hl (hc.mat.2 r (get_mem h)).1
theorem not_pr_num {n : Nat} {M : Int} {f : List (List Int)} {r : List Int} {k i : Nat} (h : f[k]? = some r) (hi : i < r.length) (hl : ¬ (0 ≤ gi r i ∧ gi r i ≤ M - 1)) : prB n M f = false := prB_f fun hc => hl ((hc.mat.2 r (get_mem h)).2 _ (gi_mem hi))
theorem not_pr_z {n : Nat} {M : Int} {f : List (List Int)} {r : List Int} {k i : Nat} (h : f[k]? = some r) (hk : k < n) (hi : i < n) (hz : k = 0 ∨ i = 0) (hl : gi r i ≠ 0) : prB n M f = false := prB_f fun hc => by
  rcases hz with rfl | rfl
  · exact hl (by rw [← gf_of h]; exact hc.z1 i hi)
  · exact hl (by rw [← gf_of h]; exact hc.z2 k hk)
theorem isPr_of {n : Nat} {M : Int} {f : List (List Int)} (hl : f.length = n) (h : ∀ (j : Nat) r, j < n → f[j]? = some r → RowM n M r ∧ ∀ i, i < n → (j = 0 ∨ i = 0) → gi r i = 0) : IsPr n M f := by
  refine ⟨⟨hl, all_get' fun j r hr => (h j r (by have := (List.getElem?_eq_some_iff.1 hr).1; omega) hr).1⟩, fun x hx => ?_, fun x hx => ?_⟩
  · obtain ⟨r, hr⟩ := get_at (xs := f) (k := 0) (by omega)
    rw [gf_of hr]; exact (h 0 r (by omega) hr).2 x hx (.inl rfl)
  · obtain ⟨r, hr⟩ := get_at (xs := f) (k := x) (by omega)
    rw [gf_of hr]; exact (h x r hx hr).2 0 (by omega) (.inr rfl)

end Go.Proofs.Ytnhgflmmfppmnaa
