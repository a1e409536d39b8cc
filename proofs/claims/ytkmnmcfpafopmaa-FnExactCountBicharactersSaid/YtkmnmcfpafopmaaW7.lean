/- The walks of the codes of orders, of the greatest common divisors, and of CountBicharacters. -/
import Derived.Test.YtkmnmcfpafopmaaW6
namespace Go.Proofs.Ytkmnmcfpafopmaa
open Go Go.RowKit
set_option linter.unusedSimpArgs false
set_option linter.unusedVariables false

def codeO (os : List Int) (most : Int) : Int := if gsz os = 0 then 1 else if most < gsz os then 3 else 0
theorem ordersCode_any (w : World) (B : Nat) (A : Option Addr) (n c : Nat) (xs : List Int) (most : Int) (h : Sl w B A n c xs) (hn : n ≤ 1048576) : Calls Try.prog 40 #[.slice A n c, .int .i64 most] w (Qt w (.int .i64 (codeO xs most))) := by
  unfold codeO
  by_cases h0 : gsz xs = 0
  · rw [if_pos h0]
    have k : (gsz xs == 0) = true := by simpa using h0
    clear h0
    go_enter Try.func40, Try.ntmps40
    go_wp2_with fail
    refine (groupSize_any _ B _ _ _ _ h hn).mono ?_
    rintro e w' ⟨rfl, m, rfl⟩
    go_wp2
    go_ret
    exact Qt.d1 rfl
  · rw [if_neg h0]
    have k : (gsz xs == 0) = false := by simpa using h0
    by_cases h1 : most < gsz xs
    · rw [if_pos h1]
      go_enter Try.func40, Try.ntmps40
      go_wp2_with fail
      refine (groupSize_any _ B _ _ _ _ h hn).mono ?_
      rintro e w' ⟨rfl, m, rfl⟩
      go_wp2
      go_ret
      exact Qt.d1 rfl
    · rw [if_neg h1]
      go_enter Try.func40, Try.ntmps40
      go_wp2_with fail
      refine (groupSize_any _ B _ _ _ _ h hn).mono ?_
      rintro e w' ⟨rfl, m, rfl⟩
      go_wp2
      go_ret
      exact Qt.d1 rfl
theorem isModulus_any (m : Int) (w : World) : Calls Try.prog 41 #[.int .i64 m] w (Qt w (.bool (inB m 1 1000))) := by
  go_enter Try.func41, Try.ntmps41
  go_wp2_with fail
  refine (within_any _ _ _ _).mono ?_
  rintro e w' ⟨rfl, m, rfl⟩
  go_wp2
  go_ret
  exact Qt.d1 rfl
theorem l17Size_any (w : World) (B : Nat) (A : Option Addr) (n c : Nat) (xs : List Int) (h : Sl w B A n c xs) (hn : n ≤ 1048576) (hok : okL xs = true) :
    Calls Try.prog 55 #[.slice A n c] w (Qt w (.int .i64 (min 9 (gsL 1 xs)))) := by
  have e := szL_gsL 8 (by omega) (by omega) xs 1 hok (by omega) (by omega)
  rw [show (9 : Int) = 8 + 1 from rfl, ← e]
  clear e
  go_enter Try.func55, Try.ntmps55
  go_wp2_with fail
  refine (l06Size_any _ B _ _ _ _ 8 h hn hok (by omega) (by omega)).mono ?_
  rintro e w' ⟨rfl, m, rfl⟩
  go_wp2
  go_ret
  exact Qt.d1 rfl
def codeG (os : List Int) (m : Int) : Int := if okOs os = false then 1 else if 8 < gsL 1 os then 3 else if inB m 1 1000 = false then 2 else 0
theorem l18Group_any (w : World) (B : Nat) (A : Option Addr) (n c : Nat) (xs : List Int) (m : Int) (h : Sl w B A n c xs) (hn : n ≤ 1048576) : Calls Try.prog 38 #[.slice A n c, .int .i64 m] w (Qt w (.int .i64 (codeG xs m))) := by
  unfold codeG
  by_cases h0 : okOs xs = false
  · rw [if_pos h0]
    go_enter Try.func38, Try.ntmps38
    go_wp2_with fail
    refine (l06Orders_any _ B _ _ _ _ h hn).mono ?_
    rintro e w' ⟨rfl, m, rfl⟩
    rw [h0]
    go_wp2
    go_ret
    exact Qt.d1 rfl
  · rw [if_neg h0]
    have hok : okL xs = true := by
      unfold okOs at h0
      cases e : okL xs
      · rw [e] at h0; simp at h0
      · rfl
    have h0 : okOs xs = true := by simpa using h0
    have H0 := hide h0
    have HK := hide hok
    clear h0 hok
    by_cases h1 : 8 < gsL 1 xs
    · rw [if_pos h1]
      have k : (8 : Int) < min 9 (gsL 1 xs) := by omega
      go_enter Try.func38, Try.ntmps38
      go_wp2_with fail
      refine (l06Orders_any _ B _ _ _ _ h hn).mono ?_
      rintro e w' ⟨rfl, m, rfl⟩
      rw [H0.out]
      go_wp2_with fail
      refine (l17Size_any _ B _ _ _ _ (h.drewN _) hn HK.out).mono ?_
      rintro e w' ⟨rfl, m, rfl⟩
      go_wp2
      go_ret
      exact Qt.d1 rfl
    · rw [if_neg h1]
      have k : ¬ (8 : Int) < min 9 (gsL 1 xs) := by omega
      obtain ⟨b, hb⟩ : ∃ b, inB m 1 1000 = b := ⟨_, rfl⟩
      rw [hb]
      have HB := hide hb
      clear hb
      cases b
      all_goals
        go_enter Try.func38, Try.ntmps38
        go_wp2_with fail
        refine (l06Orders_any _ B _ _ _ _ h hn).mono ?_
        rintro e w' ⟨rfl, m, rfl⟩
        rw [H0.out]
        go_wp2_with fail
        refine (l17Size_any _ B _ _ _ _ (h.drewN _) hn HK.out).mono ?_
        rintro e w' ⟨rfl, m, rfl⟩
        go_wp2_with fail
        refine (l01In_any _ _ _ _).mono ?_
        rintro e w' ⟨rfl, m, rfl⟩
        rw [HB.out]
        go_wp2
        go_ret
        exact Qt.d1 rfl

theorem gcd_step (a b : Int) (ha : 0 ≤ a) (hb : 0 < b) : Int.gcd b (a % b) = Int.gcd a b := by
  obtain ⟨x, rfl⟩ := Int.eq_ofNat_of_zero_le ha
  obtain ⟨y, rfl⟩ := Int.eq_ofNat_of_zero_le (show 0 ≤ b by omega)
  rw [← Int.natCast_emod]
  show Nat.gcd y (x % y) = Nat.gcd x y
  rw [Nat.gcd_comm y, ← Nat.gcd_rec, Nat.gcd_comm]
theorem gcd_any (a b : Int) (w : World) (ha : 0 ≤ a) (hb : 0 ≤ b) (ha1 : a ≤ 4611686018427387904) (hb1 : b ≤ 4611686018427387904) : Calls Try.prog 42 #[.int .i64 a, .int .i64 b] w (Qt w (.int .i64 (Int.gcd a b))) := by
  go_enter Try.func42, Try.ntmps42
  go_wp2
  go_loopw [0, 1] (fun x y wr => ∃ (p q : Int), x = .int .i64 p ∧ y = .int .i64 q ∧ 0 ≤ p ∧ 0 ≤ q ∧ p ≤ 4611686018427387904 ∧ q ≤ 4611686018427387904 ∧ (Int.gcd a b = Int.gcd p q) ∧ ∃ m, w.drewN m = wr) (fun _ y _ => (intOf y).toNat)
  case atStart => exact ⟨a, b, rfl, rfl, ha, hb, ha1, hb1, rfl, 0, rfl⟩
  case round =>
    obtain ⟨p, q, rfl, rfl, hp, hq, hp1, hq1, hpre, m, rfl⟩ := hrel
    have hP := hide hpre
    clear hpre
    by_cases h0 : q = 0
    · subst h0
      have hz : Int.gcd p 0 = p := by rw [Int.gcd_zero_right]; omega
      have hZ := hide hz
      clear hz
      go_wp2
      go_ret
      exact Qt.d1 (int_eq (by rw [hP.out, hZ.out]))
    · have k1 : (q != 0) = true := by simpa using h0
      have k2 : p.tmod q = p % q := Int.tmod_eq_emod_of_nonneg hp
      have r0 := Int.emod_nonneg p h0
      have r1 := Int.emod_lt_of_pos p (show 0 < q by omega)
      go_wp2
      refine wp_region_ord [0, 1, 2, 3, 4, 5] 5 (fun _ => True) (by kernel_rfl) (by kernel_rfl) (by kernel_rfl) (fun _ _ _ _ _ h => h) trivial ?_
      repeat (apply ord_take rfl (by rfl) (by rfl); focus (intro w hSw; (try dsimp only at hSw); go_simp; (try with_reducible rfl)); (try simp only [Act.put, List.setIfInBounds_toArray, List.set_cons_zero, List.set_cons_succ]))
      refine ord_do rfl (by rfl) (by rfl) (fun K hK => ?_)
      go_simp
      refine hK.out _ _ (fun h => absurd h (by omega)) ?_
      (try simp only [Act.put, List.setIfInBounds_toArray, List.set_cons_zero, List.set_cons_succ])
      clear hK K
      refine ord_nil ?_
      clear k1 k2
      go_wp2
      go_roundw
      case rel => exact ⟨q, p % q, rfl, rfl, hq, r0, hq1, by omega, by rw [hP.out, gcd_step p q hp (by omega)], m + 1, rfl⟩
      case measure => simp only [intOf]; omega
theorem l10Common_any (a b : Int) (w : World) (ha : 0 ≤ a) (hb : 0 ≤ b) (ha1 : a ≤ 4611686018427387904) (hb1 : b ≤ 4611686018427387904) : Calls Try.prog 39 #[.int .i64 a, .int .i64 b] w (Qt w (.int .i64 (Int.gcd a b))) := by
  go_enter Try.func39, Try.ntmps39
  go_wp2
  go_loop [0, 1, 5] (fun x y _ => ∃ (p q : Int), x = .int .i64 p ∧ y = .int .i64 q ∧ 0 ≤ p ∧ 0 ≤ q ∧ p ≤ 4611686018427387904 ∧ q ≤ 4611686018427387904 ∧ (Int.gcd a b = Int.gcd p q)) (fun _ y _ => (intOf y).toNat)
  case atStart => exact ⟨a, b, rfl, rfl, ha, hb, ha1, hb1, rfl⟩
  case round =>
    obtain ⟨p, q, rfl, rfl, hp, hq, hp1, hq1, hpre⟩ := hrel
    have hP := hide hpre
    clear hpre
    by_cases h0 : 0 < q
    · have r0 := Int.emod_nonneg p (show q ≠ 0 by omega)
      have r1 := Int.emod_lt_of_pos p h0
      have k0 : ¬ q = 0 := by omega
      go_wp2
      go_round
      case rel => exact ⟨q, p % q, rfl, rfl, hq, r0, hq1, by omega, by rw [hP.out, gcd_step p q hp (by omega)]⟩
      case measure => simp only [intOf]; omega
    · obtain rfl : q = 0 := by omega
      go_wp2
      go_ret
      exact Qt.mk' 0 rfl (int_eq (by rw [hP.out, Int.gcd_zero_right]; omega))
end Go.Proofs.Ytkmnmcfpafopmaa
