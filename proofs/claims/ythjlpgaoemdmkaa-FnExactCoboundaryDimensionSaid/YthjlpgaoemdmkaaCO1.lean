
/- Pairings: plain facts; the walks of isPairing of both sides, of the codes of orders. -/
import Derived.Test.YthjlpgaoemdmkaaCI2
import Derived.Test.YthjlpgaoemdmkaaCS2
namespace Go.Proofs.Ythjlpgaoemdmkaa
open Go Go.RowKit Grp
set_option linter.unusedSimpArgs false
set_option linter.unusedVariables false
set_option maxRecDepth 100000
/-- Number y of row x. -/
def gf (f : List (List Int)) (x y : Nat) : Int := gi (f.getD x []) y
/-- Where the rows of a square table lie, and its numbers. -/
structure Vw (w : World) (B n b off : Nat) (b1 o1 c1 : Nat → Nat) (f : Nat → Nat → Int) : Prop where
  hb : b < B
  h1 : ∀ i, i < n → w.cell? ⟨b, off + i, none⟩ = some (.slice (some ⟨b1 i, o1 i, none⟩) n (c1 i)) ∧ b1 i < B
  h2 : ∀ i j, i < n → j < n → w.cell? ⟨b1 i, o1 i + j, none⟩ = some (.int .i64 (f i j))
theorem Vw.keep {w w' : World} {B B' n b off : Nat} {b1 o1 c1 : Nat → Nat} {f : Nat → Nat → Int} (h : Vw w B n b off b1 o1 c1 f) (hb : Below B w w') (hB : B ≤ B') : Vw w' B' n b off b1 o1 c1 f :=
  ⟨Nat.lt_of_lt_of_le h.hb hB, fun i hi => ⟨(hb.cell (p := ⟨b, off + i, none⟩) h.hb).trans (h.h1 i hi).1, Nat.lt_of_lt_of_le (h.h1 i hi).2 hB⟩,
   fun i j hi hj => (hb.cell (p := ⟨b1 i, o1 i + j, none⟩) (h.h1 i hi).2).trans (h.h2 i j hi hj)⟩
theorem vw_of {w : World} {B : Nat} {A : Option Addr} {n c : Nat} {f : List (List Int)} (h : Sl2 w B A n c f) (hpos : 0 < n) (hrow : ∀ r ∈ f, r.length = n) :
    ∃ b off b1 o1 c1, A = some ⟨b, off, none⟩ ∧ Vw w B n b off b1 o1 c1 (gf f) := by
  obtain ⟨b, off, rfl, hb⟩ := RdL.addr h hpos
  have hn := h.len
  have k1 : ∀ i, i < n → ∃ z : Nat × Nat × Nat, w.cell? ⟨b, off + i, none⟩ = some (.slice (some ⟨z.1, z.2.1, none⟩) n z.2.2) ∧ z.1 < B ∧ Sl w B (some ⟨z.1, z.2.1, none⟩) n z.2.2 (f.getD i []) := by
    intro i hi
    obtain ⟨r, hr⟩ := get_at (xs := f) (k := i) (by omega)
    obtain ⟨A', n', c', h1, h2⟩ := h.row hr
    have hrl := hrow r (get_mem hr)
    have hl := h2.len
    obtain rfl : n' = n := by omega
    obtain ⟨b', off', rfl, hb'⟩ := Sl.addr h2 hpos
    refine ⟨(b', off', c'), h1, hb', ?_⟩
    rw [getD_of hr]
    exact h2
  obtain ⟨z, hz⟩ := Go.Deep.choose_lt k1
  exact ⟨b, off, fun i => (z i).1, fun i => (z i).2.1, fun i => (z i).2.2, rfl, hb, fun i hi => ⟨(hz i hi).1, (hz i hi).2.1⟩, fun i j hi hj => (hz i hi).2.2.row hj⟩
structure IsPr (n : Nat) (M : Int) (f : List (List Int)) : Prop where
  mat : MatM n M f
  z1 : ∀ x, x < n → gf f 0 x = 0
  z2 : ∀ x, x < n → gf f x 0 = 0
open Classical in
noncomputable def prB (n : Nat) (M : Int) (f : List (List Int)) : Bool := decide (IsPr n M f)
theorem prB_t {n : Nat} {M : Int} {f : List (List Int)} (h : IsPr n M f) : prB n M f = true := by simp [prB, h]
theorem prB_f {n : Nat} {M : Int} {f : List (List Int)} (h : ¬ IsPr n M f) : prB n M f = false := by simp [prB, h]
theorem prB_iff {n : Nat} {M : Int} {f : List (List Int)} : prB n M f = true ↔ IsPr n M f := by simp [prB]
theorem gf_of {f : List (List Int)} {i j : Nat} {r : List Int} (h : f[i]? = some r) : gf f i j = gi r j := by unfold gf; rw [getD_of h]
theorem MatM.rng {n : Nat} {M : Int} {f : List (List Int)} (h : MatM n M f) {i j : Nat} (hi : i < n) (hj : j < n) : 0 ≤ gf f i j ∧ gf f i j ≤ M - 1 := by
  obtain ⟨r, hr⟩ := get_at (xs := f) (k := i) (by rw [h.1]; exact hi)
  have h1 := h.2 r (get_mem hr)
  rw [gf_of hr]
  exact h1.2 _ (gi_mem (by rw [h1.1]; exact hj))
theorem not_pr_row {n : Nat} {M : Int} {f : List (List Int)} {r : List Int} {k : Nat} (h : f[k]? = some r) (hl : r.length ≠ n) : prB n M f = false := prB_f fun hc => hl (hc.mat.2 r (get_mem h)).1
theorem not_pr_num {n : Nat} {M : Int} {f : List (List Int)} {r : List Int} {k i : Nat} (h : f[k]? = some r) (hi : i < r.length) (hl : ¬ (0 ≤ gi r i ∧ gi r i ≤ M - 1)) : prB n M f = false := prB_f fun hc => hl ((hc.mat.2 r (get_mem h)).2 _ (gi_mem hi))
theorem not_pr_z {n : Nat} {M : Int} {f : List (List Int)} {r : List Int} {k i : Nat} (h : f[k]? = some r) (hk : k < n) (hi : i < n) (hz : k = 0 ∨ i = 0) (hl : gi r i ≠ 0) : prB n M f = false := prB_f fun hc => by
  rcases hz with rfl | rfl
  · exact hl (by rw [← gf_of h]; exact hc.z1 i hi)
  · exact hl (by rw [← gf_of h]; exact hc.z2 k hk)
theorem isPr_of {n : Nat} {M : Int} {f : List (List Int)} (hl : f.length = n) (h : ∀ (j : Nat) r, j < n → f[j]? = some r → RowM n M r ∧ ∀ i, i < n → (j = 0 ∨ i = 0) → gi r i = 0) : IsPr n M f := by
  refine ⟨⟨hl, all_get' fun j r hr => (h j r (by have := (List.getElem?_eq_some_iff.1 hr).1; omega) hr).1⟩, fun x hx => ?_, fun x hx => ?_⟩
  · obtain ⟨r, hr⟩ := get_at (xs := f) (k := 0) (by omega)
    rw [gf_of hr]; exact (h 0 r (by omega) hr).2 x hx (.inl rfl)
  · obtain ⟨r, hr⟩ := get_at (xs := f) (k := x) (by omega)
    rw [gf_of hr]; exact (h x r hx hr).2 0 (by omega) (.inr rfl)

set_option maxHeartbeats 2000000 in
theorem isPairing_any (w : World) (A : Option Addr) (k c n : Nat) (M : Int) (f : List (List Int)) (h : Sl2 w w.heap.size A k c f) (hk : k ≤ 1048576) (hr : ∀ r ∈ f, r.length ≤ 1048576) (m1 : 1 ≤ M) (m2 : M ≤ 1000) (n1 : 1 ≤ n) (n8 : n ≤ 1000) :
    Calls Try.prog 114 #[.slice A k c, .int .i64 n, .int .i64 M] w (Re w (.bool (prB n M f))) := by
  cases hg : gridB n M f with
  | false =>
    have hE := hide (prB_f (n := n) (M := M) (f := f) fun hc => by rw [gridB_iff.2 hc.mat] at hg; cases hg)
    go_enter Try.func114, Try.ntmps114
    go_wp2_with fail
    refine (isGrid_any w A k c n M f h hk hr m1 m2).mono ?_
    rw [hg]
    rintro e w1 ⟨rfl, hb⟩
    clear hg
    go_wp2_with fail
    go_ret
    exact ⟨by rw [hE.out]; rfl, hb⟩
  | true =>
    have hM := gridB_iff.1 hg
    obtain rfl : k = n := by rw [← h.len]; exact hM.1
    obtain ⟨b, off, b1, o1, c1, rfl, V⟩ := vw_of h (by omega) (fun r hr => (hM.2 r hr).1)
    have HM := hide hM
    have HG := hide hg
    have HI := hide (isGrid_any w (some ⟨b, off, none⟩) k c k M f h hk hr m1 m2)
    clear hM hg h
    go_enter Try.func114, Try.ntmps114
    go_wp2_with fail
    refine HI.out.mono ?_
    rw [HG.out]
    rintro e w1 ⟨rfl, hb⟩
    replace V := V.keep hb hb.size
    go_wp2_with fail
    go_loopw [15] (fun i wr => ∃ x : Nat, x ≤ k ∧ i = .int .i64 x ∧ Hid (∀ j, j < x → gf f 0 j = 0 ∧ gf f j 0 = 0) ∧ w1 = wr) (fun i _ => k - (intOf i).toNat)
    case atStart => exact ⟨0, by omega, rfl, hide fun j hj => absurd hj (by omega), rfl⟩
    case round =>
      obtain ⟨x, hx, rfl, HP, rfl⟩ := hrel
      by_cases hlx : x < k
      · have a1 := (V.h1 0 n1).1
        have a2 := V.h2 0 x n1 hlx
        have d1 := (V.h1 x hlx).1
        have d2 := V.h2 x 0 hlx n1
        simp only [Nat.add_zero] at a1 d2
        obtain ⟨v1, e1⟩ : ∃ v, gf f 0 x = v := ⟨_, rfl⟩
        obtain ⟨v2, e2⟩ : ∃ v, gf f x 0 = v := ⟨_, rfl⟩
        rw [e1] at a2
        rw [e2] at d2
        have E1 := hide e1
        have E2 := hide e2
        clear e1 e2
        by_cases h1 : v1 = 0
        · by_cases h2 : v2 = 0
          · have t1 : (v1 != 0) = false := by simp [h1]
            have t2 : (v2 != 0) = false := by simp [h2]
            have HN := hide (show ∀ j, j < x + 1 → gf f 0 j = 0 ∧ gf f j 0 = 0 from fun j hj => by
              rcases Nat.lt_succ_iff_lt_or_eq.1 hj with h | rfl
              · exact HP.out j h
              · exact ⟨E1.out.trans h1, E2.out.trans h2⟩)
            clear h1 h2
            go_wp2_with fail
            go_roundw
            case rel => exact ⟨x + 1, by omega, by go_num, HN, trivial⟩
            case measure => simp [intOf] <;> omega
          · have t1 : (v1 != 0) = false := by simp [h1]
            have t2 : (v2 != 0) = true := by simp [h2]
            have hE := hide (prB_f (n := k) (M := M) (f := f) fun hc => h2 (by rw [← E2.out]; exact hc.z2 x hlx))
            clear h1 h2
            go_wp2_with fail
            go_ret
            exact ⟨by rw [hE.out]; rfl, hb⟩
        · have t1 : (v1 != 0) = true := by simp [h1]
          have hE := hide (prB_f (n := k) (M := M) (f := f) fun hc => h1 (by rw [← E1.out]; exact hc.z1 x hlx))
          clear h1
          go_wp2_with fail
          go_ret
          exact ⟨by rw [hE.out]; rfl, hb⟩
      · obtain rfl : k = x := by omega
        have hE := hide (prB_t (n := k) (M := M) (f := f) ⟨HM.out, fun x hx => (HP.out x hx).1, fun x hx => (HP.out x hx).2⟩)
        go_wp2_with fail
        go_ret
        exact ⟨by rw [hE.out]; rfl, hb⟩
end Go.Proofs.Ythjlpgaoemdmkaa
