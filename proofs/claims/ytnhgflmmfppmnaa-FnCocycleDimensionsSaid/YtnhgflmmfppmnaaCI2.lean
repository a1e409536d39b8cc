
/- The walks of plus, rest, isNormalised of the program's cocycles. -/
import Derived.Test.YtnhgflmmfppmnaaCI1
import Derived.Test.YtnhgflmmfppmnaaCS2
namespace Go.Proofs.Ytnhgflmmfppmnaa
open Go Go.RowKit Grp
set_option linter.unusedSimpArgs false
set_option linter.unusedVariables false
set_option maxRecDepth 100000

theorem plus_any (w : World) (A : Option Addr) (n c : Nat) (os : List Int) (m d : Value) (x y : Nat) (h : Sl w w.heap.size A n c os) (hH : OkH os) (hx : x ≤ 100) (hy : y ≤ 100) :
    Calls Try.prog 18 #[.agg #[.slice A n c, m, d], .int .i64 x, .int .i64 y] w (Re w (.int .i64 (An os x y))) := by
  have hw1 : IntKind.i64.wrap (x : Int) = x := wr64 _ ⟨by omega, by omega⟩
  have hw2 : IntKind.i64.wrap (y : Int) = y := wr64 _ ⟨by omega, by omega⟩
  have hr := arH_rng hH (x : Int) y
  have hp := hH.p16
  have HE := hide (An_eq hH x y)
  obtain ⟨a, ha⟩ : ∃ a, An os x y = a := ⟨_, rfl⟩
  have hal : a ≤ 16 := by have := HE.out; rw [ha] at this; omega
  have hw3 : IntKind.i64.wrap (a : Int) = a := wr64 _ ⟨by omega, by omega⟩
  have HC := hide (fun W (hW : Sl W W.heap.size A n c os) => by
    have h9 := addElements_h W A n c os x y hH (by omega) (by omega) (by omega) (by omega) hW
    rw [An_eq hH x y, ha] at h9
    exact h9)
  rw [ha]
  clear ha hr
  go_enter Try.func18, Try.ntmps18
  go_wp2_with fail
  refine (HC.out _ ((h.below ((Below.refl _ _).alloc (Nat.le_refl _) _)).more (by simp))).mono ?_
  rintro e w1 ⟨rfl, hb⟩
  go_wp2_with fail
  go_ret
  exact ⟨rfl, ((Below.refl _ _).alloc (Nat.le_refl _) _).trans (hb.mono (by simp))⟩
theorem rest_eq' (n q : Int) (hq : 1 ≤ q) : (n.tmod q + q).tmod q = n % q := by
  have h2 : 0 ≤ n.tmod q + q := by
    have := Int.lt_tmod_of_pos n (show 0 < q by omega)
    omega
  rw [Int.tmod_eq_emod_of_nonneg h2, Int.add_emod_right]
  rw [Int.tmod_def, Int.sub_mul_emod_self_left]
theorem restC_any (w : World) (o v : Value) (q n : Int) (h1 : 1 ≤ q) (h2 : q ≤ 1000000000) :
    Calls Try.prog 17 #[.agg #[o, .int .i64 q, v], .int .i64 n] w (Re w (.int .i64 (n % q))) := by
  have k1 : IntKind.i64.wrap (n.tmod q + q) = n.tmod q + q := by
    refine wr64 _ ⟨?_, ?_⟩
    · have := Int.lt_tmod_of_pos n (show 0 < q by omega); omega
    · have := Int.tmod_lt_of_pos n (show 0 < q by omega); omega
  have k2 : ¬ q = 0 := by omega
  have k3 := rest_eq' n q h1
  obtain ⟨r, hr⟩ : ∃ r, n % q = r := ⟨_, rfl⟩
  rw [hr] at k3 ⊢
  clear hr
  go_enter Try.func17, Try.ntmps17
  go_wp2_with fail
  go_quiet (fail)
  go_wp2_with fail
  go_ret
  exact ⟨rfl, below_drewN ((Below.refl _ _).alloc (Nat.le_refl _) _) _⟩
end Go.Proofs.Ytnhgflmmfppmnaa
