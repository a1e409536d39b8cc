
/- The walks of l01Order, l01Primitive, l01Unity. -/
import Derived.Test.YtlhfjfpgoaiijaaP1
import Derived.WalkLawsBesides
namespace Go.Proofs.Ytlhfjfpgoaiijaa
open Go Go.RowKit
set_option linter.unusedSimpArgs false
set_option linter.unusedVariables false

/-- It returned a number that is 55440 just where a is primitive. -/
def OrdR (w : World) (a : Nat) (e : Ending) (w' : World) : Prop := ∃ o : Nat, e = .returned (.int .i64 o) ∧ o ≤ 55440 ∧ decide (o = 55440) = !noPrim a ∧ Below w.heap.size w w'
def p5 (k : Nat) : Nat := pr5.getD k 0
/-- What the loops keep. -/
def OI (a q k : Nat) : Prop := (q = 55440 ∧ ∀ j, j < k → pwr a (55440 / p5 j) ≠ 1) ∨ (q < 55440 ∧ noPrim a = true)
theorem noPrim_at {a k : Nat} (hk : k < 5) (h : pwr a (55440 / p5 k) = 1) : noPrim a = true := by
  refine List.any_eq_true.2 ⟨p5 k, ?_, by simpa using h⟩
  obtain rfl | rfl | rfl | rfl | rfl : k = 0 ∨ k = 1 ∨ k = 2 ∨ k = 3 ∨ k = 4 := by omega
  all_goals decide
theorem p5_dvd {k : Nat} (hk : k < 5) : 55440 % p5 k = 0 ∧ 2 ≤ p5 k ∧ p5 k ≤ 11 := by
  obtain rfl | rfl | rfl | rfl | rfl : k = 0 ∨ k = 1 ∨ k = 2 ∨ k = 3 ∨ k = 4 := by omega
  all_goals decide
theorem OI.red {a q k : Nat} (h : OI a q k) (hk : k < 5) (hq : 1 ≤ q) (hp : pwr a (q / p5 k) = 1) : OI a (q / p5 k) k := by
  obtain ⟨_, h2, _⟩ := p5_dvd hk
  have hlt : q / p5 k < q := Nat.div_lt_self (by omega) (by omega)
  rcases h with ⟨rfl, _⟩ | ⟨h1, h2⟩
  · exact .inr ⟨by omega, noPrim_at hk hp⟩
  · exact .inr ⟨by omega, h2⟩
theorem OI.next0 {a q k : Nat} (h : OI a q k) (hk : k < 5) (hp : q % p5 k ≠ 0) : OI a q (k + 1) := by
  rcases h with ⟨rfl, _⟩ | h
  · exact absurd (p5_dvd hk).1 hp
  · exact .inr h
theorem OI.next1 {a q k : Nat} (h : OI a q k) (hp : pwr a (q / p5 k) ≠ 1) : OI a q (k + 1) := by
  rcases h with ⟨rfl, h1⟩ | h
  · exact .inl ⟨rfl, fun j hj => by rcases Nat.lt_succ_iff_lt_or_eq.1 hj with h | rfl; exact h1 j h; exact hp⟩
  · exact .inr h
theorem OI.fin {a q : Nat} (h : OI a q 5) : decide (q = 55440) = !noPrim a := by
  rcases h with ⟨rfl, h⟩ | ⟨h1, h2⟩
  · have : noPrim a = false := by
      refine Bool.eq_false_iff.2 fun ha => ?_
      obtain ⟨p, hp, he⟩ := List.any_eq_true.1 ha
      have he' : pwr a (55440 / p) = 1 := by simpa using he
      simp only [pr5, List.mem_cons, List.not_mem_nil, or_false] at hp
      rcases hp with rfl | rfl | rfl | rfl | rfl
      · exact h 0 (by omega) he'
      · exact h 1 (by omega) he'
      · exact h 2 (by omega) he'
      · exact h 3 (by omega) he'
      · exact h 4 (by omega) he'
    rw [this]; rfl
  · rw [h2]; simp; omega
theorem cells5 {k : Nat} (hk : k < 5) : (#[.int .i64 2, .int .i64 3, .int .i64 5, .int .i64 7, .int .i64 11] : Array Value)[k]? = some (.int .i64 (p5 k)) := by
  obtain rfl | rfl | rfl | rfl | rfl : k = 0 ∨ k = 1 ∨ k = 2 ∨ k = 3 ∨ k = 4 := by omega
  all_goals rfl

set_option maxHeartbeats 1000000 in
theorem l01Order_any (w : World) (a : Nat) (ha : a < 55441) : Calls Try.prog 52 #[.int .i64 a] w (OrdR w a) := by
  go_enter Try.func52, Try.ntmps52
  go_wp2_with fail
  obtain ⟨W, hW⟩ : ∃ W, w.alloc (.cells #[.int .i64 2, .int .i64 3, .int .i64 5, .int .i64 7, .int .i64 11] 2) = W := ⟨_, rfl⟩
  have hbW : Below w.heap.size w W := by rw [← hW]; exact (by repeat (first | assumption | exact Below.refl _ _ | apply below_drewN | apply Below.drew | apply Below.alloc | apply Below.setCell | omega | (focus (simp; done)) | (focus (simp; omega))))
  have hB : Blk W w.heap.size 2 #[.int .i64 2, .int .i64 3, .int .i64 5, .int .i64 7, .int .i64 11] := by rw [← hW]; exact Blk.new _ _ _
  rw [hW]
  clear hW
  go_loopw [3, 5] (fun o i wr => ∃ (q k : Nat), k ≤ 5 ∧ i = .int .i64 k ∧ o = .int .i64 q ∧ 1 ≤ q ∧ q ≤ 55440 ∧ OI a q k ∧ Dr W wr) (fun _ i _ => 5 - (intOf i).toNat)
  case atStart => exact ⟨55440, 0, by omega, rfl, rfl, by omega, by omega, .inl ⟨rfl, fun j hj => absurd hj (by omega)⟩, Dr.refl _⟩
  case round =>
    obtain ⟨q, k, hk, rfl, rfl, hq1, hq2, hI, hDr⟩ := hrel
    have hI' := hide hI
    clear hI
    by_cases hlt : k < 5
    · obtain ⟨hp0, hp1, hp2⟩ := p5_dvd hlt
      have hltI : (k : Int) < 5 := by omega
      have c0 := (hB.cell k).trans (cells5 hlt)
      obtain ⟨p, hp⟩ : ∃ p, p5 k = p := ⟨_, rfl⟩
      rw [hp] at c0 hp0 hp1 hp2
      have hPP := hide hp
      have hP0 := hide hp0
      clear hp hp0
      go_wp2_with fail
      go_loopw [3] (fun o wr => ∃ (q : Nat), o = .int .i64 q ∧ 1 ≤ q ∧ q ≤ 55440 ∧ OI a q k ∧ Dr W wr) (fun o _ => (intOf o).toNat)
      case atStart => exact ⟨q, rfl, hq1, hq2, hI'.out, hDr⟩
      case round =>
        clear hDr hI' hq1 hq2
        obtain ⟨q, rfl, hq1, hq2, hI, hDr⟩ := hrel
        have hI' := hide hI
        clear hI
        obtain ⟨dm, rfl⟩ := hDr
        have c1 : (W.drewN dm).cell? ⟨w.heap.size, k, none⟩ = some (.int .i64 p) := c0
        by_cases hd : q % p = 0
        · have hdb : ((q : Int) % p == 0) = true := by rw [beq_iff_eq]; omega
          have hqp : 1 ≤ q / p := by
            rcases Nat.eq_zero_or_pos (q / p) with h | h
            · have := Nat.div_add_mod q p; rw [h, hd] at this; omega
            · exact h
          have hqle : q / p ≤ q := Nat.div_le_self _ _
          have hqlt : q / p < q := Nat.div_lt_self (by omega) (by omega)
          obtain ⟨r, hr⟩ : ∃ r, q / p = r := ⟨_, rfl⟩
          have t1 : (q : Int) / p = r := by rw [← hr]; rfl
          rw [hr] at hqp hqle hqlt
          have t2 : IntKind.i64.wrap (r : Int) = r := wrap_in (by omega) (by omega)
          have hR := hide hr
          clear hr hd
          obtain ⟨v, hv⟩ : ∃ v, pwr a r = v := ⟨_, rfl⟩
          have hpow := fun W' => l01Pow_any W' a r ha (by omega)
          rw [hv] at hpow
          by_cases h1 : v = 1
          · have h1b : ((v : Int) == 1) = true := by rw [beq_iff_eq]; omega
            have hN := hide (show OI a r k by rw [← hR.out, ← hPP.out]; exact hI'.out.red hlt hq1 (by rw [hPP.out, hR.out, hv, h1]))
            clear h1 hv
            go_wp2_with fail
            refine (hpow _).mono ?_
            rintro e w' ⟨rfl, m, rfl⟩
            go_wp2_with fail
            go_roundw
            case rel => exact ⟨r, rfl, by omega, by omega, hN.out, dm + m, rfl⟩
            case measure => simp [intOf] <;> omega
          · have h1b : ((v : Int) == 1) = false := by rw [beq_eq_false_iff_ne]; omega
            have hN := hide (show OI a q (k + 1) from hI'.out.next1 (by rw [hPP.out, hR.out, hv]; exact h1))
            clear h1 hv
            go_wp2_with fail
            refine (hpow _).mono ?_
            rintro e w' ⟨rfl, m, rfl⟩
            go_wp2_with fail
            go_roundw
            case rel => exact ⟨q, k + 1, by omega, by go_num, rfl, by omega, by omega, hN.out, dm + m, rfl⟩
            case measure => simp [intOf] <;> omega
        · have hdb : ((q : Int) % p == 0) = false := by rw [beq_eq_false_iff_ne]; omega
          have hN := hide (show OI a q (k + 1) from hI'.out.next0 hlt (by rw [hPP.out]; exact hd))
          clear hd
          go_wp2_with fail
          go_roundw
          case rel => exact ⟨q, k + 1, by omega, by go_num, rfl, by omega, by omega, hN.out, dm, rfl⟩
          case measure => simp [intOf] <;> omega
    · obtain rfl : k = 5 := by omega
      have hF := hide hI'.out.fin
      go_wp2_with fail
      go_ret
      exact ⟨q, rfl, hq2, hF.out, hDr.below hbW⟩

set_option maxHeartbeats 1000000 in
theorem l01Primitive_any (w : World) : Calls Try.prog 36 #[] w (Re w (.int .i64 38)) := by
  go_enter Try.func36, Try.ntmps36
  go_wp2_with fail
  go_loopw [1] (fun i wr => ∃ (k : Nat), 1 ≤ k ∧ k ≤ 38 ∧ i = .int .i64 k ∧ Below w.heap.size w wr) (fun i _ => 38 - (intOf i).toNat)
  case atStart => exact ⟨1, by omega, by omega, rfl, Below.refl _ _⟩
  case round =>
    obtain ⟨k, hk1, hk, rfl, hBe⟩ := hrel
    by_cases hlt : k < 38
    · have hp := hide (prim_lt k hlt hk1)
      go_wp2_with fail
      refine (l01Order_any _ k (by omega)).mono ?_
      rintro e w2 ⟨o, rfl, ho, hd, hb⟩
      have hne : ((o : Int) != 55440) = true := by
        rw [hp.out] at hd
        have : o ≠ 55440 := by simpa using hd
        rw [bne_iff_ne]; omega
      have hD := hide hd
      clear hd
      have hBe2 := hBe.trans (hb.mono hBe.size)
      go_wp2_with fail
      go_roundw
      case rel => exact ⟨k + 1, by omega, by omega, by go_num, hBe2⟩
      case measure => simp [intOf] <;> omega
    · obtain rfl : k = 38 := by omega
      have hp := hide prim38
      go_wp2_with fail
      refine (l01Order_any _ 38 (by omega)).mono ?_
      rintro e w2 ⟨o, rfl, ho, hd, hb⟩
      have hoe : o = 55440 := by rw [hp.out] at hd; simpa using hd
      subst hoe
      have hD := hide hd
      clear hd
      have hBe2 := hBe.trans (hb.mono hBe.size)
      go_wp2_with fail
      go_ret
      exact ⟨rfl, hBe2⟩

set_option maxHeartbeats 1000000 in
theorem l01Unity_any (w : World) (n : Nat) (h1 : 1 ≤ n) (h2 : n ≤ 55440) : Calls Try.prog 15 #[.int .i64 n] w (Re w (.int .i64 (rtu n))) := by
  have hd : 55440 / n ≤ 55440 := Nat.div_le_self _ _
  have t0 : ¬ (n : Int) = 0 := by omega
  have t0n : ¬ n = 0 := by omega
  obtain ⟨q, hq⟩ : ∃ q, 55440 / n = q := ⟨_, rfl⟩
  have t1 : (55440 : Int).tdiv n = q := by rw [Int.tdiv_eq_ediv_of_nonneg (by omega), ← hq]; rfl
  have t1' : (55440 : Int) / n = q := by rw [← hq]; rfl
  rw [hq] at hd
  have t2 : IntKind.i64.wrap (q : Int) = q := wrap_in (by omega) (by omega)
  have hQ := hide (show rtu n = pwr 38 q by unfold rtu; rw [hq])
  clear hq
  go_enter Try.func15, Try.ntmps15
  go_wp2
  refine wp_region_be [1, 2, 0, 3, 4] 4 w.heap.size w (by kernel_rfl) (by kernel_rfl) (by kernel_rfl) (fun _ _ _ _ _ h => h) (Below.refl _ _) (fun wd hBe => ?_)
  repeat (first | (apply ord_tk rfl (by rfl) (by rfl) (by rfl); (focus (intro wx hSw; skip; go_simp; (try with_reducible rfl))); (try simp only [Act.put, List.setIfInBounds_toArray, List.set_cons_zero, List.set_cons_succ])) | (apply ord_skip rfl (by rfl) (by rfl) (fun _ => hBe); (try simp only [Act.put, List.setIfInBounds_toArray, List.set_cons_zero, List.set_cons_succ])))
  refine ord_do rfl (by rfl) (by rfl) (fun K hK => ?_)
  go_simp
  refine (((l01Primitive_any _).mono fun _ _ h => h)).mono ?_
  rintro e wd' ⟨rfl, hwd⟩
  replace hBe := hBe.trans (hwd.mono hBe.size)
  clear hwd
  refine hK.out _ _ (fun _ => hBe) ?_
  (try simp only [Act.put, List.setIfInBounds_toArray, List.set_cons_zero, List.set_cons_succ])
  clear hK K
  repeat (first | (apply ord_tk rfl (by rfl) (by rfl) (by rfl); (focus (intro wx hSw; skip; go_simp; (try with_reducible rfl))); (try simp only [Act.put, List.setIfInBounds_toArray, List.set_cons_zero, List.set_cons_succ])) | (apply ord_skip rfl (by rfl) (by rfl) (fun _ => hBe); (try simp only [Act.put, List.setIfInBounds_toArray, List.set_cons_zero, List.set_cons_succ])))
  refine ord_do rfl (by rfl) (by rfl) (fun K hK => ?_)
  go_simp
  refine (((l01Pow_any _ 38 q (by omega) (by omega)).mono fun _ _ h => Qt.re h)).mono ?_
  rintro e wd' ⟨rfl, hwd⟩
  replace hBe := hBe.trans (hwd.mono hBe.size)
  clear hwd
  refine hK.out _ _ (fun _ => hBe) ?_
  (try simp only [Act.put, List.setIfInBounds_toArray, List.set_cons_zero, List.set_cons_succ])
  clear hK K
  repeat (first | (apply ord_tk rfl (by rfl) (by rfl) (by rfl); (focus (intro wx hSw; skip; go_simp; (try with_reducible rfl))); (try simp only [Act.put, List.setIfInBounds_toArray, List.set_cons_zero, List.set_cons_succ])) | (apply ord_skip rfl (by rfl) (by rfl) (fun _ => hBe); (try simp only [Act.put, List.setIfInBounds_toArray, List.set_cons_zero, List.set_cons_succ])))
  refine ord_do rfl (by rfl) (by rfl) (fun K hK => ?_)
  go_simp
  refine hK.out _ _ (fun h => absurd h (by omega)) ?_
  (try simp only [Act.put, List.setIfInBounds_toArray, List.set_cons_zero, List.set_cons_succ])
  clear hK K
  refine ord_nil ?_
  go_wp2
  go_ret
  exact ⟨by rw [hQ.out]; rfl, hBe⟩
end Go.Proofs.Ytlhfjfpgoaiijaa
