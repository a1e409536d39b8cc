
/- What FnMetrics asks of elements: contracts at elements of a metric, power5, RootOfUnity, and the values' law told plainly. -/
import Derived.Test.YtnoemhmmaicakaaE3
import Derived.Test.YtnoemhmmaicakaaPe
import Derived.Test.YtnoemhmmaicakaaCma
import Derived.WalkLawsBesides
namespace Go.Proofs.Ytnoemhmmaicakaa
open Go Go.RowKit Grp
set_option linter.unusedSimpArgs false
set_option linter.unusedVariables false
set_option maxHeartbeats 1000000 in
theorem power5_any (w : World) (a k : Nat) (ha : a < 55441) (hk : k ≤ 1000000000) : Calls Try.prog 23 #[.int .i64 a, .int .i64 k] w (Qt w (.int .i64 (pwr a k))) := by
  go_enter Try.func23, Try.ntmps23
  go_wp2_with fail
  go_loop [0, 1, 5] (fun b j p => ∃ (b' j' p' : Nat), b = .int .i64 b' ∧ j = .int .i64 j' ∧ p = .int .i64 p' ∧ b' < 55441 ∧ p' < 55441 ∧ j' ≤ 1000000000 ∧ (p' * b' ^ j') % 55441 = pwr a k) (fun _ j _ => (intOf j).toNat)
  case atStart => exact ⟨a, k, 1, rfl, rfl, rfl, ha, by omega, hk, by rw [Nat.one_mul]; rfl⟩
  case round =>
    obtain ⟨b, j, p, rfl, rfl, rfl, hb, hp, hj, hpre⟩ := hrel
    have hP := hide hpre
    clear hpre
    by_cases hlt : 0 < j
    · have e1 : b * b ≤ 55440 * 55440 := Nat.mul_le_mul (by omega) (by omega)
      have e2 : p * b ≤ 55440 * 55440 := Nat.mul_le_mul (by omega) (by omega)
      have t1 : IntKind.i64.wrap ((b : Int) * b) = ((b * b : Nat) : Int) := by rw [← Int.natCast_mul]; exact wrap_in (by omega) (by omega)
      have t2 : IntKind.i64.wrap ((p : Int) * b) = ((p * b : Nat) : Int) := by rw [← Int.natCast_mul]; exact wrap_in (by omega) (by omega)
      obtain ⟨bb, hbb⟩ : ∃ x, b * b = x := ⟨_, rfl⟩
      obtain ⟨pb, hpb⟩ : ∃ x, p * b = x := ⟨_, rfl⟩
      rw [hbb] at t1 e1
      rw [hpb] at t2 e2
      have hBB := hide hbb
      have hPB := hide hpb
      clear hbb hpb
      have t3 : IntKind.i64.wrap ((j : Int) / 2) = (j : Int) / 2 := wrap_in (by omega) (by omega)
      by_cases h2 : j % 2 = 1
      · have h2b : ((j : Int) % 2 == 1) = true := by rw [beq_iff_eq]; omega
        have hS := hide (pwr_step1 (p := p) (a := b) h2)
        clear h2
        go_wp2_with fail
        go_round
        case rel => exact ⟨bb % 55441, j / 2, pb % 55441, int_eq (by omega), int_eq (by omega), int_eq (by omega), by omega, by omega, by omega, by rw [← hBB.out, ← hPB.out, hS.out, hP.out]⟩
        case measure => simp [intOf] <;> omega
      · have h2b : ((j : Int) % 2 == 1) = false := by rw [beq_eq_false_iff_ne]; omega
        have hS := hide (pwr_step0 (p := p) (a := b) h2)
        clear h2
        go_wp2_with fail
        go_round
        case rel => exact ⟨bb % 55441, j / 2, p, int_eq (by omega), int_eq (by omega), rfl, by omega, by omega, by omega, by rw [← hBB.out, hS.out, hP.out]⟩
        case measure => simp [intOf] <;> omega
    · obtain rfl : j = 0 := by omega
      go_wp2_with fail
      go_ret
      exact Qt.mk' 0 rfl (int_eq (by have := hP.out; rw [Nat.pow_zero, Nat.mul_one, Nat.mod_eq_of_lt hp] at this; rw [this]))
theorem rootU_any (w : World) (n : Nat) (h : ordB n = true) : Calls Try.prog 20 #[.int .i64 n] w (Re2 w (rtu n) 0) := by
  have hdd := ordB_iff.1 h
  have h2 : n ≤ 55440 := by
    have h9 : 55440 % n = 0 := Int.ofNat.inj (show Int.ofNat (55440 % n) = Int.ofNat 0 from hdd.2)
    exact Nat.le_of_dvd (by omega) (Nat.dvd_of_mod_eq_zero h9)
  have h1 : 1 ≤ n := by omega
  have HO := hide (fun W => isOrder_v true n W h)
  have HR := hide (fun W => root_any W n h1 h2)
  clear hdd h
  go_enter Try.func20, Try.ntmps20
  go_wp2_with fail
  refine (HO.out _).mono ?_
  rintro e w1 ⟨rfl, m1, rfl⟩
  go_wp2_with fail
  refine (HR.out _).mono ?_
  rintro e w2 ⟨rfl, m2, rfl⟩
  go_wp2_with fail
  refine bodyPost_ret (v := .tuple #[.int .i64 (rtu n), .int .i64 0]) (by simp [results, Try.results20, go_sem]) rfl ?_
  exact ⟨rfl, below_drewN (Below.refl _ _) _⟩
section
variable {os vs : List Int} {D : Int} (hM : IsM os D vs)
include hM
theorem codeE_ok {xs : List Int} (h : ∀ x ∈ xs, 0 ≤ x ∧ x < prodL os) : codeE os D vs xs = 0 := by
  unfold codeE
  rw [if_pos (isM_t hM), if_pos]
  unfold allIn
  refine List.all_eq_true.2 fun x hx => ?_
  have := h x hx
  unfold inB
  exact decide_eq_true ⟨by omega, by omega⟩
theorem elt_ok {x : Int} (x0 : 0 ≤ x) (x1 : x < prodL os) : i64ok x := by have := hM.ok.g.p16; exact ⟨by omega, by omega⟩
variable (W : World) (A : Option Addr) (n c : Nat) (A' : Option Addr) (n' c' : Nat) (h : Sl W W.heap.size A n c os) (h' : Sl W W.heap.size A' n' c' vs) (hn : n ≤ 1048576) (hn' : n' ≤ 1048576)
include h h' hn hn'
theorem add_v {x y : Int} (x0 : 0 ≤ x) (x1 : x < prodL os) (y0 : 0 ≤ y) (y1 : y < prodL os) : Calls Try.prog 17 #[.agg #[.slice A n c, .int .i64 D, .slice A' n' c'], .int .i64 x, .int .i64 y] W (Re2 W (Ar os x y) 0) := by
  have := impl_Add_any W A n c os D A' n' c' vs x y (elt_ok hM x0 x1) (elt_ok hM y0 y1) h h' hn hn'
  rwa [codeE_ok hM (xs := [x, y]) (fun z hz => by simp at hz; rcases hz with rfl | rfl <;> exact ⟨by omega, by omega⟩), if_pos rfl] at this
theorem neg_v {x : Int} (x0 : 0 ≤ x) (x1 : x < prodL os) : Calls Try.prog 18 #[.agg #[.slice A n c, .int .i64 D, .slice A' n' c'], .int .i64 x] W (Re2 W (Ng os x) 0) := by
  have := impl_Neg_any W A n c os D A' n' c' vs x (elt_ok hM x0 x1) h h' hn hn'
  rwa [codeE_ok hM (xs := [x]) (fun z hz => by simp at hz; subst hz; exact ⟨by omega, by omega⟩), if_pos rfl] at this
theorem pair_v {x y : Int} (x0 : 0 ≤ x) (x1 : x < prodL os) (y0 : 0 ≤ y) (y1 : y < prodL os) : Calls Try.prog 7 #[.agg #[.slice A n c, .int .i64 D, .slice A' n' c'], .int .i64 x, .int .i64 y] W (Re2 W (Pr os D vs x y) 0) := by
  have := impl_Pair_any W A n c os D A' n' c' vs x y (elt_ok hM x0 x1) (elt_ok hM y0 y1) h h' hn hn'
  rwa [codeE_ok hM (xs := [x, y]) (fun z hz => by simp at hz; rcases hz with rfl | rfl <;> exact ⟨by omega, by omega⟩), if_pos rfl] at this
theorem val_v {x : Int} (x0 : 0 ≤ x) (x1 : x < prodL os) : Calls Try.prog 19 #[.agg #[.slice A n c, .int .i64 D, .slice A' n' c'], .int .i64 x] W (Re2 W (rp D.toNat (Vl vs x) : Int) 0) := by
  have := impl_Val_any W A n c os D A' n' c' vs x (elt_ok hM x0 x1) h h' hn hn'
  rwa [codeE_ok hM (xs := [x]) (fun z hz => by simp at hz; subst hz; exact ⟨by omega, by omega⟩), if_pos rfl] at this
theorem ord_v {x : Int} (x0 : 0 ≤ x) (x1 : x < prodL os) : Calls Try.prog 21 #[.agg #[.slice A n c, .int .i64 D, .slice A' n' c'], .int .i64 x] W (Re2 W (ordN os x : Nat) 0) := by
  have := impl_Ord_any W A n c os D A' n' c' vs x (elt_ok hM x0 x1) h h' hn hn'
  rwa [codeE_ok hM (xs := [x]) (fun z hz => by simp at hz; subst hz; exact ⟨by omega, by omega⟩), if_pos rfl] at this
end
/-- The value of a sum. -/
theorem val_sum {os vs : List Int} {D : Int} (hM : IsM os D vs) (x y : Int) {k : Nat} (hk : Pr os D vs x y = k) :
    ((rp D.toNat (Vl vs x) : Int) * (rp D.toNat (Vl vs y) : Int) % 55441 * (pwr (rtu D.toNat) k : Int)) % 55441 = (rp D.toNat (Vl vs (Ar os x y)) : Int) := by
  obtain ⟨h1, h2, h3⟩ := ordB_dvd hM.ord
  have hr := Pr_rng hM.ok x y
  have hb : bt os D vs x y = (pwr (rtu D.toNat) k : Int) := by
    unfold bt
    rw [hk, rp_at (by omega)]
  have h := th_add hM x y
  rw [hb] at h
  have h5 := ((Cg.mod (th D vs x * th D vs y)).mul (Cg.rfl' (pwr (rtu D.toNat) k : Int))).trans h.symm
  unfold th at h5
  rw [h5.emod]
  have := rp_lt D.toNat (Vl vs (Ar os x y))
  omega
theorem pair_lin {os vs : List Int} {D : Int} (hM : IsM os D vs) {x y z : Int} (x0 : 0 ≤ x) (x1 : x < prodL os) (y0 : 0 ≤ y) (y1 : y < prodL os) (z0 : 0 ≤ z) (z1 : z < prodL os) : (Pr os D vs x z + Pr os D vs y z - Pr os D vs (Ar os x y) z).tmod D = 0 := by
  have hl := hM.ok.len
  have h := bilI hM x0 (by omega) y0 (by omega) z0 (by omega)
  have a := Pr_rng hM.ok x z
  have b := Pr_rng hM.ok y z
  obtain ⟨k, hk⟩ : ∃ k, (Pr os D vs x z + Pr os D vs y z) / D = k := ⟨_, rfl⟩
  have hd := Int.emod_add_mul_ediv (Pr os D vs x z + Pr os D vs y z) D
  rw [hk] at hd
  have e : Pr os D vs x z + Pr os D vs y z - Pr os D vs (Ar os x y) z = D * k := by rw [h]; omega
  rw [e]
  exact Int.mul_tmod_right _ _
end Go.Proofs.Ytnoemhmmaicakaa
