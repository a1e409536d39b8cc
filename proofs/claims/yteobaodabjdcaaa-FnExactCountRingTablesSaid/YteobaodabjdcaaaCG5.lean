
/- The walk of the reference's CountRingTables. -/
import Derived.Test.YteobaodabjdcaaaCG4
import Derived.Test.YteobaodabjdcaaaGa
namespace Go.Proofs.Yteobaodabjdcaaa
open Go Go.RowKit
set_option linter.unusedSimpArgs false
set_option linter.unusedVariables false
set_option maxRecDepth 100000
/-- The count and the code. -/
def crtB (n m : Int) : Bool := inB n 1 3 && inB m 0 4
def crtN (n m : Int) : Int := if crtB n m = true then (ringsC n.toNat m.toNat : Int) else 0
def crtC (n m : Int) : Int := if crtB n m = true then 0 else 2
/-- Two results: a number and a code; what lay before lies as it lay. -/
def R2 (w : World) (a b : Int) (e : Ending) (w' : World) : Prop := e = .returned (.tuple #[.int .i64 a, .int .i64 b]) ∧ Below w.heap.size w w'
theorem specCount_any (w : World) (n m : Int) : Calls Try.prog 4 #[.int .i64 n, .int .i64 m] w (R2 w (crtN n m) (crtC n m)) := by
  by_cases h : crtB n m = true
  · have h2 : inB n 1 3 = true ∧ inB m 0 4 = true := by simpa [crtB] using h
    have h3 : (1 ≤ n ∧ n ≤ 3) ∧ (0 ≤ m ∧ m ≤ 4) := by simpa [inB] using h2
    obtain ⟨k, rfl⟩ : ∃ k : Nat, n = k := ⟨n.toNat, by omega⟩
    obtain ⟨j, rfl⟩ : ∃ k : Nat, m = k := ⟨m.toNat, by omega⟩
    have hN := hide (show crtN k j = ringsC k j by unfold crtN; rw [if_pos h]; rfl)
    have hC := hide (show crtC k j = 0 by unfold crtC; rw [if_pos h])
    have i1 := hide (fun W => l01In_v true (k : Int) 1 3 W h2.1)
    have i2 := hide (fun W => l01In_v true (j : Int) 0 4 W h2.2)
    have hA := hide (fun W => l07All_any W k j (by omega) (by omega) (by omega))
    clear h h2 h3
    go_enter Try.func4, Try.ntmps4
    go_wp2_with fail
    refine (i1.out _).mono ?_
    rintro e w1 ⟨rfl, d1, rfl⟩
    go_wp2_with fail
    refine (i2.out _).mono ?_
    rintro e w2 ⟨rfl, d2, rfl⟩
    go_wp2_with fail
    refine (hA.out _).mono ?_
    rintro e w3 ⟨v, rfl, hO, hb⟩
    obtain ⟨A, c, rfl⟩ := hO.val
    have hbz : Below w.heap.size w w3 := (below_drewN (Below.refl w.heap.size w) (d1 + d2)).trans hb
    go_wp2_with fail
    refine bodyPost_ret (v := .tuple #[.int .i64 (ringsC k j), .int .i64 0]) (by simp [results, Try.results4, go_sem]) rfl ?_
    exact ⟨by rw [hN.out, hC.out], hbz⟩
  · have hN := hide (show crtN n m = 0 by unfold crtN; rw [if_neg h])
    have hC := hide (show crtC n m = 2 by unfold crtC; rw [if_neg h])
    obtain ⟨x1, h1⟩ : ∃ x, inB n 1 3 = x := ⟨_, rfl⟩
    obtain ⟨x2, h2⟩ : ∃ x, inB m 0 4 = x := ⟨_, rfl⟩
    have i1 := hide (fun W => l01In_v x1 n 1 3 W h1)
    have i2 := hide (fun W => l01In_v x2 m 0 4 W h2)
    have hx : (x1 && x2) = false := by rw [← h1, ← h2]; simpa [crtB] using h
    clear h h1 h2
    go_enter Try.func4, Try.ntmps4
    go_wp2_with fail
    refine (i1.out _).mono ?_
    rintro e w1 ⟨rfl, d1, rfl⟩
    cases x1 with
    | false =>
      go_wp2_with fail
      refine bodyPost_ret (v := .tuple #[.int .i64 0, .int .i64 2]) (by simp [results, Try.results4, go_sem]) rfl ?_
      exact ⟨by rw [hN.out, hC.out], below_drewN (Below.refl w.heap.size w) _⟩
    | true =>
      obtain rfl : x2 = false := by simpa using hx
      go_wp2_with fail
      refine (i2.out _).mono ?_
      rintro e w2 ⟨rfl, d2, rfl⟩
      go_wp2_with fail
      refine bodyPost_ret (v := .tuple #[.int .i64 0, .int .i64 2]) (by simp [results, Try.results4, go_sem]) rfl ?_
      exact ⟨by rw [hN.out, hC.out], below_drewN (Below.refl w.heap.size w) _⟩
end Go.Proofs.Yteobaodabjdcaaa
