
/- The masks of all subgroups, as the reference makes them: l11Masks walked. -/
import Derived.Test.YtbpihnpakolooaaGreatDoorMW3
namespace Go.Proofs.YtbpihnpakolooaaGreatDoor
open Go Go.RowKit Grp
set_option linter.unusedSimpArgs false
set_option linter.unusedVariables false
open Classical in
/-- The masks of subgroups below k. -/
noncomputable def allB (os : List Int) (N k : Nat) : List Nat := (List.range k).filter fun m => decide (Sbg os (mems N m))
theorem allB_t {os : List Int} {N k : Nat} (h : Sbg os (mems N k)) : allB os N (k + 1) = allB os N k ++ [k] := by
  unfold allB; rw [List.range_succ, List.filter_append]; simp [h]
theorem allB_f {os : List Int} {N k : Nat} (h : ¬ Sbg os (mems N k)) : allB os N (k + 1) = allB os N k := by
  unfold allB; rw [List.range_succ, List.filter_append]; simp [h]
theorem even_no {os : List Int} {N k : Nat} (h : k % 2 = 0) : ¬ Sbg os (mems N k) := fun hs => by
  have h0 := (mem_mems.1 hs.zero).2.2
  rw [show (0 : Int).toNat = 0 from rfl, Nat.testBit_zero] at h0
  simp at h0
  omega
theorem allB_one (os : List Int) (N : Nat) : allB os N 1 = [] := by
  rw [show (1 : Nat) = 0 + 1 from rfl, allB_f (even_no (by omega))]; rfl
theorem allB_end {os : List Int} {N k : Nat} (hN : 0 < N) (h1 : 2 ^ N ≤ k) (h2 : k ≤ 2 ^ N + 1) : allB os N k = allK os N := by
  have he : allB os N (2 ^ N) = allK os N := rfl
  rcases Nat.eq_or_lt_of_le h1 with h | h
  · rw [← h]; exact he
  · have : k = 2 ^ N + 1 := by omega
    rw [this, allB_f (even_no (by obtain ⟨m, rfl⟩ : ∃ m, N = m + 1 := ⟨N - 1, by omega⟩; rw [Nat.pow_succ]; omega))]
    exact he
theorem allB_len (os : List Int) (N k : Nat) : (allB os N k).length ≤ k := by
  unfold allB; exact Nat.le_trans (List.length_filter_le _ _) (by simp)
theorem mems_lst (N m : Nat) : IsLst N (mems N m) := fun j hj => by
  have hs := List.pairwise_iff_getElem.1 (mems_lt N m)
  have hm := mems_rng (N := N) (m := m) _ (gi_mem hj)
  refine ⟨by simp [inB]; omega, fun h0 => ?_⟩
  have := hs (j - 1) j (by omega) hj (by omega)
  rwa [gi_ext (by omega), gi_ext hj] at this
/-- What the reference tests of a mask. -/
theorem mask_test {os : List Int} {N : Nat} (hG : OkG os) (hN : (N : Int) = prodL os) {m : Nat} (ho : m % 2 = 1) :
    0 < (mems N m).length ∧ (Sbg os (mems N m) → N % (mems N m).length = 0) ∧ (clB os (mems N m) = true ↔ Sbg os (mems N m)) := by
  have hge := hG.ge
  refine ⟨List.length_pos_of_mem (a := 0) (mem_mems.2 ⟨by omega, by omega, ?_⟩), fun h => sb_dvd hG hN h ((mems_lt N m).imp fun h => by omega) mems_rng, clB_iff⟩
  rw [show (0 : Int).toNat = 0 from rfl, Nat.testBit_zero]
  simp [ho]
set_option maxHeartbeats 4000000 in
theorem l11Masks_any (w : World) (A : Option Addr) (n c : Nat) (os : List Int) (D : Int) (A' : Option Addr) (n' c' : Nat) (N : Nat)
    (h : Sl w w.heap.size A n c os) (hG : OkG os) (hN : prodL os = N) :
    Calls Tryz.prog 90 #[.agg #[.slice A n c, .int .i64 D, .slice A' n' c']] w (Mk w (sgK os N)) := by
  have hge := hG.ge
  have h16 := hG.p16
  have N0 : 0 < N := by omega
  have N16 : N ≤ 16 := by omega
  have HN := hide hN
  have HP := hide (show (2 : Nat) ^ N ≤ 65536 from Nat.le_trans (Nat.pow_le_pow_right (by omega) N16) (by decide))
  have HT := hide (fun m ho => mask_test hG hN.symm (m := m) ho)
  have HE := hide (fun k h1 h2 => allB_end (os := os) N0 (k := k) h1 h2)
  have H0 := hide (allB_one os N)
  obtain ⟨P, hP⟩ : ∃ P : Nat, 2 ^ N = P := ⟨_, rfl⟩
  have hP6 : P ≤ 65536 := by rw [← hP]; exact HP.out
  have hP2 : 2 ≤ P := by rw [← hP]; exact Nat.le_trans (show 2 ≤ 2 ^ 1 by decide) (Nat.pow_le_pow_right (by omega) N0)
  have hPi : ((2 : Int) ^ N) = (P : Int) := by rw [← hP]; exact (Int.natCast_pow 2 N).symm
  have hws : wrap64 ((2 : Int) ^ N) = (P : Int) := by rw [hPi]; exact wrap64_ok _ ⟨by omega, by omega⟩
  have HPE := hide hP
  have HWS := hide hws
  clear hge h16 hP hPi hws
  have hlz := l10Size_any
  go_enter Tryz.func90, Tryz.ntmps90
  go_wp2_with fail
  obtain ⟨W, hW⟩ : ∃ W, w.alloc (.cells #[.slice A n c, .int .i64 D, .slice A' n' c'] 26) = W := ⟨_, rfl⟩
  have hbW : Below w.heap.size w W := by rw [← hW]; exact (by repeat (first | assumption | exact Below.refl _ _ | apply below_drewN | apply Below.drew | apply Below.alloc | apply Below.setCell | omega | (focus (simp; done)) | (focus (simp; omega))))
  have hszW : w.heap.size < W.heap.size := by rw [← hW]; simp
  have hsW := hide (show W.heap.size = w.heap.size + 1 by rw [← hW]; simp)
  have bM : Blk W w.heap.size 26 #[.slice A n c, .int .i64 D, .slice A' n' c'] := by rw [← hW]; exact Blk.new _ _ _
  have q0 : W.cell? ⟨w.heap.size, 0, none⟩ = some (.slice A n c) := by rw [← hW]; exact (Blk.new _ _ _).cell 0
  have q1 : W.cell? ⟨w.heap.size, 1, none⟩ = some (.int .i64 D) := by rw [← hW]; exact (Blk.new _ _ _).cell 1
  have q2 : W.cell? ⟨w.heap.size, 2, none⟩ = some (.slice A' n' c') := by rw [← hW]; exact (Blk.new _ _ _).cell 2
  rw [hW]
  clear hW
  have hsl : ∀ wd, Below W.heap.size W wd → Sl wd wd.heap.size A n c os := fun wd h9 => ((h.below hbW).more (Nat.le_of_lt hszW)).below h9 |>.more h9.size
  have hB2 : Below W.heap.size W (W.alloc (.cells #[] 2)) := (Below.refl _ _).alloc (Nat.le_refl _) _
  have hO2 : Ow (W.alloc (.cells #[] 2)) W.heap.size (.slice (some ⟨w.heap.size + 1, 0, none⟩) 0 0) [] := Ow.made' (xs := []) W #[] (w.heap.size + 1) 0 hsW.out rfl (by rw [hsW.out]; omega) rfl (by unfold maxLen; omega)
  clear hlz
  go_wp2_with fail
  refine (l10Size_any _ _ _ _ _ _ (hsl _ hB2) hG).mono ?_
  rw [HN.out]
  rintro e w2 ⟨rfl, m2, rfl⟩
  replace hO2 := hO2.drewN m2
  replace hB2 := below_drewN hB2 m2
  clear hN
  have hws := HWS.out
  have hN1 : IntKind.u64.wrap (N : Int) = (N : Int) := by rw [IntKind.wrap_u64]; omega
  go_wp2_with fail
  go_loopw [3, 5] (fun o i wr => ∃ (t : Nat) (vv : Value), 2 * t ≤ P ∧ i = .int .i64 ((2 * t + 1 : Nat) : Int) ∧ vv = o ∧ Ow wr W.heap.size vv (fI (allB os N (2 * t + 1))) ∧ Below W.heap.size W wr) (fun _ i _ => P + 2 - (intOf i).toNat)
  case atStart => exact ⟨0, _, by omega, rfl, rfl, by rw [H0.out]; exact hO2, hB2⟩
  case round =>
    clear hO2 hB2
    obtain ⟨t, vv, ht, rfl, rfl, hO, hBe⟩ := hrel
    obtain ⟨M, hM⟩ : ∃ M, 2 * t + 1 = M := ⟨_, rfl⟩
    have hMi : (2 * t + 1 : Nat) = M := hM
    have HM := hide hM
    rw [hMi] at hO ⊢
    clear hMi
    by_cases hlt : M < P
    · obtain ⟨k0, k1, k2⟩ := HT.out M (by omega)
      have hle := mems_len N M
      have HLst := hide (show IsLst (prodL os) (mems N M) by rw [HN.out]; exact mems_lst N M)
      have HR6 := hide (show ∀ x ∈ mems N M, i64ok x from fun x hx => by have := mems_rng x hx; exact ⟨by omega, by omega⟩)
      have HA1 := hide (allB_t (os := os) (N := N) (k := M))
      have HA2 := hide (allB_f (os := os) (N := N) (k := M))
      have HA3 := hide (allB_f (os := os) (N := N) (k := M + 1) (even_no (by omega)))
      have hal := allB_len os N M
      have h65 : M < 65536 := by omega
      have hmv : IntKind.i64.wrap ((M : Int) + 2) = ((2 * (t + 1) + 1 : Nat) : Int) := by rw [wr64 _ ⟨by omega, by omega⟩]; omega
      have hm2 : ((M + 2 : Nat) : Int) = ((2 * (t + 1) + 1 : Nat) : Int) := by omega
      go_wp2_with fail
      refine (l11Members_any _ N M N16 h65).mono ?_
      rintro e w3 ⟨v, rfl, hV, hb3⟩
      replace hO := hO.below hb3
      replace hBe := hBe.trans (hb3.mono hBe.size)
      clear hb3
      obtain ⟨sA, sc, rfl, hS3⟩ := hV.sl HR6.out
      have hcl := fun W A n c A' n' c' L l lc h1 h2 => l11Closed_any W A n c os D A' n' c' L l lc (mems N M) h1 h2 hG HLst.out
      obtain ⟨L, hL⟩ : ∃ L, (mems N M).length = L := ⟨_, rfl⟩
      rw [hL] at k0 k1 hS3 hle ⊢
      have hL0 : ¬ L = 0 := by omega
      clear hL hV
      obtain ⟨b, hb⟩ : ∃ b, clB os (mems N M) = b := ⟨_, rfl⟩
      simp only [hb] at hcl k2
      have K1 := hide k1
      have K2 := hide k2
      have r0 := (hBe.cell (p := ⟨w.heap.size, 0, none⟩) hszW).trans q0
      have r1 := (hBe.cell (p := ⟨w.heap.size, 1, none⟩) hszW).trans q1
      have r2 := (hBe.cell (p := ⟨w.heap.size, 2, none⟩) hszW).trans q2
      have h65i : (M : Int) < (P : Int) := by omega
      clear k1 k2 hb hM
      by_cases hr : N % L = 0
      · have hrm : ((N : Int).tmod (L : Int) == 0) = true := by rw [← Int.ofNat_tmod, hr]; rfl
        cases b with
        | true =>
          have hS := K2.out.1 rfl
          have HO := hide (show allB os N (2 * (t + 1) + 1) = allB os N M ++ [M] by rw [show 2 * (t + 1) + 1 = M + 1 + 1 by have := HM.out; omega, HA3.out, HA1.out hS])
          have HAP := hide (fI_app (allB os N M) M)
          have hfl : (fI (allB os N M)).length ≤ 1048576 := by rw [fI_len]; omega
          clear hS
          go_wp2_with fail
          refine (hcl _ _ _ _ _ _ _ _ _ _ (hsl _ hBe) hS3).mono ?_
          rintro e w4 ⟨rfl, hb4⟩
          replace hO := hO.below hb4
          replace hBe := hBe.trans (hb4.mono hBe.size)
          clear hb4 r0 r1 r2 hcl hS3
          go_wp2_with (at_builtin; refine list_push _ rfl _ _ rfl W.heap.size _ _ rfl (hO.alloc _) (M : Int) _ _ rfl (Blk.new _ _ _) hfl (by have := hBe.size; simp at this ⊢; omega) (by simp) ?_; intro g' cap' w5 hP4)
          go_roundw
          case rel => exact ⟨t + 1, _, by omega, by go_num, rfl, by rw [HO.out, HAP.out]; exact hP4.own, (hBe.alloc hBe.size _).trans (hP4.below (hO.alloc _) (by have := hBe.size; simp at this ⊢; omega))⟩
          case measure => simp [intOf] <;> omega
        | false =>
          have hS : ¬ Sbg os (mems N M) := fun h9 => by have := K2.out.2 h9; cases this
          have HO := hide (show allB os N (2 * (t + 1) + 1) = allB os N M by rw [show 2 * (t + 1) + 1 = M + 1 + 1 by have := HM.out; omega, HA3.out, HA2.out hS])
          clear hS
          go_wp2_with fail
          refine (hcl _ _ _ _ _ _ _ _ _ _ (hsl _ hBe) hS3).mono ?_
          rintro e w4 ⟨rfl, hb4⟩
          replace hO := hO.below hb4
          replace hBe := hBe.trans (hb4.mono hBe.size)
          clear hb4 r0 r1 r2 hcl hS3
          go_wp2_with fail
          go_roundw
          case rel => exact ⟨t + 1, vv, by omega, by go_num, rfl, by rw [HO.out]; exact hO, hBe⟩
          case measure => simp [intOf] <;> omega
      · have hrm : ((N : Int).tmod (L : Int) == 0) = false := by rw [← Int.ofNat_tmod, beq_eq_false_iff_ne]; omega
        have hS : ¬ Sbg os (mems N M) := fun h9 => hr (K1.out h9)
        have HO := hide (show allB os N (2 * (t + 1) + 1) = allB os N M by rw [show 2 * (t + 1) + 1 = M + 1 + 1 by have := HM.out; omega, HA3.out, HA2.out hS])
        clear hS
        go_wp2_with fail
        go_roundw
        case rel => exact ⟨t + 1, vv, by omega, by go_num, rfl, by rw [HO.out]; exact hO, hBe⟩
        case measure => simp [intOf] <;> omega
    · have hE := hide (show fI (allB os N M) = sgK os N by rw [HE.out M (by rw [HPE.out]; omega) (by rw [HPE.out]; omega)]; rfl)
      rw [hE.out] at hO
      have hlti : ¬ (M : Int) < (P : Int) := by omega
      go_wp2_with fail
      go_ret
      exact ⟨_, rfl, hO.less (Nat.le_of_lt hszW), hbW.trans (hBe.mono (Nat.le_of_lt hszW))⟩
end Go.Proofs.YtbpihnpakolooaaGreatDoor
