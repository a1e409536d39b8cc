/- The law FnExactHyperbolicMetric: its walk out of the contracts. -/
import Derived.Test.YtkmnmcfpafopmaaW2
import Derived.Test.YtkmnmcfpafopmaaW4
namespace Go.Proofs.Ytkmnmcfpafopmaa
open Go Go.RowKit

theorem hyp_same (n : Nat) (h2 : 2 ≤ n) (h4 : n ≤ 4) : hypTo n n = hypAt n (n * n) := by
  have : n = 2 ∨ n = 3 ∨ n = 4 := by omega
  rcases this with rfl | rfl | rfl <;> decide
theorem hypAt_rng (n k : Nat) (h2 : 2 ≤ n) (h4 : n ≤ 4) : ∀ x ∈ hypAt n k, i64ok x := by
  intro x hx
  simp only [hypAt, List.mem_map, List.mem_range] at hx
  obtain ⟨j, _, rfl⟩ := hx
  have h1 := Int.emod_nonneg ((j : Int) / n * ((j : Int) % n)) (show (n : Int) ≠ 0 by omega)
  have h2 := Int.emod_lt_of_pos ((j : Int) / n * ((j : Int) % n)) (show (0 : Int) < n by omega)
  exact ⟨by omega, by omega⟩

theorem law_hyp_core (w : World) (os vs : List Int) (q code : Int) (n : Int) (hs : Hid (∀ W, Calls Try.prog 9 #[.int .i64 n] W (MkM W os q vs code))) (hi : Hid (∀ W, Calls Try.prog 10 #[.int .i64 n] W (MkM W os q vs code)))
    (hno : os.length ≤ 1048576) (hnv : vs.length ≤ 1048576) (ro : ∀ x ∈ os, i64ok x) (rv : ∀ x ∈ vs, i64ok x) : Calls Try.prog 3 #[.int .i64 n] w (Re w (.bool true)) := by
  have Ro := hide ro
  have Rv := hide rv
  clear ro rv
  have hm0 : heldI 1 (marks 1 os.length) = 1 + os.length := heldI_marks _ _
  have hm1 : heldI (1 + os.length) (marks (1 + os.length) vs.length) = 1 + os.length + vs.length := heldI_marks _ _
  have hm : heldM 1 (marks 1 os.length) (marks (1 + os.length) vs.length) = 1 + os.length + vs.length := by
    rw [heldM_3 (by rw [hm0]; omega) (by rw [hm0, hm1]; omega), hm0, hm1]
  have Hm := hide hm
  clear hm0 hm1 hm
  go_enter Try.func3, Try.ntmps3
  go_wp2_with fail
  refine (hs.out _).mono ?_
  rintro e w1 ⟨a1, a2, rfl, hoa1, hoa2, -, hb1⟩
  obtain ⟨A1, c1, rfl, sa1⟩ := hoa1.sl Ro.out
  obtain ⟨A2, c2, rfl, sa2⟩ := hoa2.sl Rv.out
  go_wp2_with fail
  refine (hi.out _).mono ?_
  rintro e w2 ⟨g1, g2, rfl, hog1, hog2, hapg, hb2⟩
  have sa1' := (sa1.alloc (Nat.le_refl _) (.cells #[.slice A1 os.length c1, .int .i64 q, .slice A2 vs.length c2] 24)).below (hb2.mono (by simp))
  have sa2' := (sa2.alloc (Nat.le_refl _) (.cells #[.slice A1 os.length c1, .int .i64 q, .slice A2 vs.length c2] 24)).below (hb2.mono (by simp))
  have bx3 := (Blk.new w1 24 #[.slice A1 os.length c1, .int .i64 q, .slice A2 vs.length c2]).all hb2
  obtain ⟨G1, d1, rfl, sg1⟩ := hog1.sl Ro.out
  obtain ⟨G2, d2, rfl, sg2⟩ := hog2.sl Rv.out
  have z1 := hb1.size
  have z2 := hb2.size
  simp only [World.size_alloc] at z2
  have x30 := bx3.cell 0
  have x31 := bx3.cell 1
  have x32 := bx3.cell 2
  have l3 := bx3.lt
  go_wp2_with fail
  refine (eqMetric_any _ w2.heap.size _ _ _ _ _ _ _ _ _ _ _ _ _ _ _ _ _ _ (sg1.alloc (Nat.le_refl _) _) (sg2.alloc (Nat.le_refl _) _) ((sa1'.more (by omega)).alloc (Nat.le_refl _) _) ((sa2'.more (by omega)).alloc (Nat.le_refl _) _) (by simp) hno hnv).mono ?_
  rintro e w3 ⟨rfl, hb3⟩
  simp only [beq_self_eq_true, Bool.and_self]
  have bx5 := (Blk.new w2 24 #[.slice G1 os.length d1, .int .i64 q, .slice G2 vs.length d2]).all hb3
  have bx3' := (bx3.alloc (.cells #[.slice G1 os.length d1, .int .i64 q, .slice G2 vs.length d2] 24)).all hb3
  have og1 : Ow w3 _ _ os := (hog1.alloc _).below hb3
  have og2 : Ow w3 _ _ vs := (hog2.alloc _).below hb3
  have ta1 := (sa1'.alloc (by omega) (.cells #[.slice G1 os.length d1, .int .i64 q, .slice G2 vs.length d2] 24)).below (hb3.mono (by simp; omega))
  have ta2 := (sa2'.alloc (by omega) (.cells #[.slice G1 os.length d1, .int .i64 q, .slice G2 vs.length d2] 24)).below (hb3.mono (by simp; omega))
  have x50 := bx5.cell 0
  have x51 := bx5.cell 1
  have x52 := bx5.cell 2
  go_wp2_with fail
  refine (markMetric_any _ _ _ _ _ _ _ _ og1 og2 hapg hno hnv (by omega) (by omega)).mono ?_
  rintro e w4 hM
  have by5 := hM.blk bx5 (by decide) og1 og2
  have by3 := hM.blk bx3' (by decide) og1 og2
  have hb4 : Below w1.heap.size w3 w4 := hM.keep (by simp) (by have := hb3.size; simp at this; omega) og1 og2
  obtain ⟨rfl, om1, om2, -⟩ := hM
  obtain ⟨G1', d1', e1, mg1⟩ := om1.sl (marks_rng _ _ (by omega) (by omega) hno)
  obtain ⟨G2', d2', e2, mg2⟩ := om2.sl (marks_rng _ _ (by omega) (by omega) hnv)
  simp only [marks_length] at e1 mg1 e2 mg2
  cases e1
  cases e2
  have y50 := by5.cell 0
  have y51 := by5.cell 1
  have y52 := by5.cell 2
  go_wp2_with fail
  refine (heldMetric_any _ w4.heap.size _ _ _ _ _ _ _ _ _ _ mg1 mg2 (Nat.le_refl _) hno hnv (by omega) (by omega)).mono ?_
  rintro e w5 ⟨rfl, hb5⟩
  rw [Hm.out]
  go_wp2_with fail
  refine (hi.out _).mono ?_
  rintro e w6 ⟨h1, h2, rfl, hoh1, hoh2, -, hb6⟩
  obtain ⟨H1, p1, rfl, sh1⟩ := hoh1.sl Ro.out
  obtain ⟨H2, p2, rfl, sh2⟩ := hoh2.sl Rv.out
  have bz3 := (by3.all hb5).all hb6
  have bz5 := (by5.all hb5).all hb6
  have z5 := hb5.size
  have z6 := hb6.size
  have z3 := hb3.size
  simp only [World.size_alloc] at z3
  have z4 := hb4.size
  have ua1 := ((ta1.below hb4).below (hb5.mono (by omega))).below (hb6.mono (by omega))
  have ua2 := ((ta2.below hb4).below (hb5.mono (by omega))).below (hb6.mono (by omega))
  have ng1 := ((mg1.below hb5).more z5).below hb6
  have ng2 := ((mg2.below hb5).more z5).below hb6
  have k30 := bz3.cell 0
  have k31 := bz3.cell 1
  have k32 := bz3.cell 2
  have l3' := bz3.lt
  go_wp2_with fail
  refine (eqMetric_any _ w6.heap.size _ _ _ _ _ _ _ _ _ _ _ _ _ _ _ _ _ _ (sh1.alloc (Nat.le_refl _) _) (sh2.alloc (Nat.le_refl _) _) ((ua1.more (by omega)).alloc (Nat.le_refl _) _) ((ua2.more (by omega)).alloc (Nat.le_refl _) _) (by simp) hno hnv).mono ?_
  rintro e w7 ⟨rfl, hb7⟩
  simp only [beq_self_eq_true, Bool.and_self]
  have bw5 := (bz5.alloc (.cells #[.slice H1 os.length p1, .int .i64 q, .slice H2 vs.length p2] 24)).all hb7
  have ig1 := ((ng1.more z6).alloc (Nat.le_refl _) (.cells #[.slice H1 os.length p1, .int .i64 q, .slice H2 vs.length p2] 24)).below (hb7.mono (by simp))
  have ig2 := ((ng2.more z6).alloc (Nat.le_refl _) (.cells #[.slice H1 os.length p1, .int .i64 q, .slice H2 vs.length p2] 24)).below (hb7.mono (by simp))
  have z7 := hb7.size
  simp only [World.size_alloc] at z7
  have j50 := bw5.cell 0
  have j51 := bw5.cell 1
  have j52 := bw5.cell 2
  go_wp2_with fail
  refine (heldMetric_any _ _ _ _ _ _ _ _ _ _ _ _ ig1 ig2 (by omega) hno hnv (by omega) (by omega)).mono ?_
  rintro e w8 ⟨rfl, hb8⟩
  rw [Hm.out]
  go_wp2
  go_ret
  refine ⟨rfl, ?_⟩
  have t2 : Below w.heap.size w w2 := (hb1.alloc (by omega) _).trans (hb2.mono (by simp; omega))
  have t3 : Below w.heap.size w w3 := (t2.alloc (by omega) _).trans (hb3.mono (by simp; omega))
  have t6 : Below w.heap.size w w6 := ((t3.trans (hb4.mono z1)).trans (hb5.mono (by omega))).trans (hb6.mono (by omega))
  exact ((t6.alloc (by omega) _).trans (hb7.mono (by simp; omega))).trans (hb8.mono (by omega))

theorem law_hyp (n : Int) (hn : (Lit.int .i64 n).wf = true) (w : World) : Calls Try.prog 3 #[.int .i64 n] w (Re w (.bool true)) := by
  by_cases h : 2 ≤ n ∧ n ≤ 4
  · obtain ⟨k, rfl⟩ := Int.eq_ofNat_of_zero_le (show 0 ≤ n by omega)
    have h2 : 2 ≤ k := by omega
    have h4 : k ≤ 4 := by omega
    have hkk : k * k ≤ 16 := Nat.mul_le_mul h4 h4
    refine law_hyp_core w [(k : Int), k] (hypAt k (k * k)) k 0 _ (hide fun W => ?_) (hide fun W => impl_Hyperbolic_any W k h2 h4) (by simp) (by rw [hypAt_len]; omega) ?_ (hypAt_rng _ _ h2 h4)
    · rw [← hyp_same k h2 h4]; exact spec_Hyperbolic_any W k h2 h4
    · intro x hx; simp at hx; subst hx; exact ⟨by omega, by omega⟩
  · exact law_hyp_core w [] [] 0 2 _ (hide fun W => (spec_Hyperbolic_no W n h).mono fun _ _ => mkM_of_no) (hide fun W => (impl_Hyperbolic_no W n h).mono fun _ _ => mkM_of_no) (by simp) (by simp) (by simp) (by simp)
end Go.Proofs.Ytkmnmcfpafopmaa
