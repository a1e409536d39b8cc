
/- Texts of numbers: the reference's l01Dec, l10List. -/
import Derived.Test.YtkhkejdkakmiiaaGreatDoorMT1
import Derived.Test.YtkhkejdkakmiiaaGreatDoorBa
import Derived.Laws.IdiomStrings
import Derived.Test.YtkhkejdkakmiiaaGreatDoorOts
namespace Go.Proofs.YtkhkejdkakmiiaaGreatDoor
open Go Go.RowKit Go.Shelf
set_option linter.unusedSimpArgs false
set_option linter.unusedVariables false
set_option maxRecDepth 100000
theorem dec_size {n : Int} (h : i64ok n) : (dec n).size ≤ 21 := by
  have := Lib.itoa_length_le n (by have := h.1; omega) (by have := h.2; omega)
  unfold dec
  rw [Lib.size_eq]
  simpa using this
theorem dec_small {n : Nat} (h : n < 10) : dec n = ⟨#[UInt8.ofNat (48 + n)]⟩ := by
  unfold dec
  rw [Lib.itoa_nonneg, Lib.decDigits_one h]
theorem dec_big {n : Nat} (h : ¬ n < 10) : dec n = dec ((n / 10 : Nat) : Int) ++ ⟨#[UInt8.ofNat (48 + n % 10)]⟩ := by
  unfold dec
  rw [Lib.itoa_nonneg, Lib.itoa_nonneg]
  have : Lib.decDigits n = Lib.decDigits (n / 10) ++ [UInt8.ofNat (48 + n % 10)] := by
    conv => lhs; rw [Lib.decDigits]
    rw [dif_neg h]
  rw [this]
  apply ByteArray.ext
  simp
/-- One byte, turned into a text. -/
theorem conv1 (w : World) (g : Nat) (x : Int) (y : Nat) (hy : y < 256) (hx : x = y) (hc : w.cell? ⟨g, 0, none⟩ = some (.int .u8 x)) :
    (convert 65 9 (.slice (some ⟨g, 0, none⟩) 1 1)).run Tryz.prog w = .ok (.string ⟨#[UInt8.ofNat y]⟩) w := by
  refine run_convert_bytes_back w 65 9 5 ⟨g, 0, none⟩ 1 [UInt8.ofNat y] (by kernel_rfl) (by kernel_rfl) (by kernel_rfl) ?_
  intro j hj
  have : j = 0 := by simpa using hj
  subst this
  rw [hx] at hc
  have e : (⟨g, 0, none⟩ : Addr).add 0 = ⟨g, 0, none⟩ := rfl
  rw [e, hc]
  simp only [List.getElem_cons_zero, UInt8.toNat_ofNat', Nat.mod_eq_of_lt (show y < 2 ^ 8 by omega)]
set_option maxHeartbeats 4000000 in
theorem l01Dec_any (n : Nat) : n ≤ 9223372036854775807 → ∀ w : World, Calls Tryz.prog 30 #[.int .i64 n] w (Re w (.string (dec n))) := by
  induction n using Nat.strongRecOn with
  | ind n ih =>
    intro hn w
    by_cases h : n < 10
    · have HD := hide (dec_small h)
      have hlt : (n : Int) < 10 := by omega
      have hw1 : IntKind.i64.wrap (48 + (n : Int)) = 48 + n := wr64 _ ⟨by omega, by omega⟩
      have hcv := conv1 (w.alloc (.cells #[.int .u8 (48 + (n : Int))] 5)) w.heap.size (48 + (n : Int)) (48 + n) (by omega) (by omega) (by go_simp)
      go_enter Tryz.func30, Tryz.ntmps30
      go_wp2_with fail
      go_ret
      exact ⟨by rw [HD.out]; simp, (by repeat (first | assumption | exact Below.refl _ _ | apply below_drewN | apply Below.drew | apply Below.alloc | apply Below.setCell | omega | (focus (simp; done)) | (focus (simp; omega))))⟩
    · have HD := hide (dec_big h)
      have hlt : ¬ (n : Int) < 10 := by omega
      have hd1 : (n : Int).tdiv 10 = ((n / 10 : Nat) : Int) := by rw [Int.tdiv_eq_ediv_of_nonneg (by omega)]; omega
      have hm1 : (n : Int).tmod 10 = ((n % 10 : Nat) : Int) := by rw [Int.tmod_eq_emod_of_nonneg (by omega)]; omega
      obtain ⟨q, hq⟩ : ∃ q, n / 10 = q := ⟨_, rfl⟩
      obtain ⟨r, hr⟩ : ∃ r, n % 10 = r := ⟨_, rfl⟩
      have hr10 : r < 10 := by omega
      have hqn : q < n := by omega
      have hrec := ih q hqn (by omega)
      rw [hq, hr] at HD
      rw [hq] at hd1
      rw [hr] at hm1
      have HREC := hide hrec
      have hw1 : IntKind.i64.wrap (48 + (r : Int)) = 48 + r := wr64 _ ⟨by omega, by omega⟩
      have hwq : IntKind.i64.wrap (q : Int) = q := wr64 _ ⟨by omega, by omega⟩
      have hwu : IntKind.u8.wrap (48 + (r : Int)) = 48 + r := by rw [IntKind.wrap_u8]; omega
      have hcat : ¬ 9223372036854775807 < (dec (q : Int)).size + 1 := by have := dec_size (n := (q : Int)) ⟨by omega, by omega⟩; omega
      clear hrec ih hq hr
      go_enter Tryz.func30, Tryz.ntmps30
      go_wp2_with fail
      refine OtS.wp_region_os (.one 0 (.one 1 (.one 3 (.one 4 (.one 5 (.one 6 (.two 2 (.one 7 (.one 8 (.one 9 (.one 10 .nil)))) 7 (.two 2 (.one 8 (.one 9 (.one 10 .nil))) 8 (.one 2 (.one 9 (.one 10 .nil))))))))))) [0, 1, 3, 4, 5, 6] (by kernel_rfl) (by kernel_rfl) (by kernel_rfl) (fun _ _ _ _ _ h => h) (fun wd hBe => ?_)
      repeat (apply OtS.os_tk rfl (by rfl) (by rfl) (by rfl); (focus (intro wx hSw; clear hSw; go_simp; (try with_reducible rfl))); (try simp only [Act.put, List.setIfInBounds_toArray, List.set_cons_zero, List.set_cons_succ]))
      refine OtS.os_two ?_ ?_
      · skip
        refine OtS.os_do rfl (by rfl) (by rfl) (fun K hK => ?_)
        go_simp
        refine (HREC.out _).mono ?_
        rintro e w3 ⟨rfl, hb3⟩
        (try replace bO := bO.all hb3)
        replace hBe := hBe.trans (hb3.mono hBe.size)
        clear hb3
        refine hK.out _ _ ?_
        (try simp only [Act.put, List.setIfInBounds_toArray, List.set_cons_zero, List.set_cons_succ])
        clear hK K
        refine OtS.os_do rfl (by rfl) (by rfl) (fun K hK => ?_)
        go_simp
        obtain ⟨wa, g, hg, hwa, hBa, hsub, bO, hgB⟩ := be_alloc hBe 5 #[.int .u8 (48 + (r : Int))]
        rw [hwa, hg]
        clear hwa hg hBe hsub
        have hBe := hBa
        clear hBa
        refine hK.out _ _ ?_
        (try simp only [Act.put, List.setIfInBounds_toArray, List.set_cons_zero, List.set_cons_succ])
        clear hK K
        refine OtS.os_do rfl (by rfl) (by rfl) (fun K hK => ?_)
        have hcv := conv1 _ g (48 + (r : Int)) (48 + r) (by omega) (by omega) (bO.cell 0)
        go_simp
        clear hcv
        refine hK.out _ _ ?_
        (try simp only [Act.put, List.setIfInBounds_toArray, List.set_cons_zero, List.set_cons_succ])
        clear hK K
        refine OtS.os_do rfl (by rfl) (by rfl) (fun K hK => ?_)
        go_simp
        refine hK.out _ _ ?_
        (try simp only [Act.put, List.setIfInBounds_toArray, List.set_cons_zero, List.set_cons_succ])
        clear hK K
        refine OtS.os_do rfl (by rfl) (by rfl) (fun K hK => ?_)
        go_simp
        refine hK.out _ _ ?_
        (try simp only [Act.put, List.setIfInBounds_toArray, List.set_cons_zero, List.set_cons_succ])
        clear hK K
        refine OtS.os_nil ?_
        go_wp2_with fail
        go_ret
        exact ⟨by rw [HD.out]; simp, hBe⟩
      · skip
        refine OtS.os_do rfl (by rfl) (by rfl) (fun K hK => ?_)
        go_simp
        obtain ⟨wa, g, hg, hwa, hBa, hsub, bO, hgB⟩ := be_alloc hBe 5 #[.int .u8 (48 + (r : Int))]
        rw [hwa, hg]
        clear hwa hg hBe hsub
        have hBe := hBa
        clear hBa
        refine hK.out _ _ ?_
        (try simp only [Act.put, List.setIfInBounds_toArray, List.set_cons_zero, List.set_cons_succ])
        clear hK K
        refine OtS.os_two ?_ ?_
        · skip
          refine OtS.os_do rfl (by rfl) (by rfl) (fun K hK => ?_)
          go_simp
          refine (HREC.out _).mono ?_
          rintro e w3 ⟨rfl, hb3⟩
          (try replace bO := bO.all hb3)
          replace hBe := hBe.trans (hb3.mono hBe.size)
          clear hb3
          refine hK.out _ _ ?_
          (try simp only [Act.put, List.setIfInBounds_toArray, List.set_cons_zero, List.set_cons_succ])
          clear hK K
          refine OtS.os_do rfl (by rfl) (by rfl) (fun K hK => ?_)
          have hcv := conv1 _ g (48 + (r : Int)) (48 + r) (by omega) (by omega) (bO.cell 0)
          go_simp
          clear hcv
          refine hK.out _ _ ?_
          (try simp only [Act.put, List.setIfInBounds_toArray, List.set_cons_zero, List.set_cons_succ])
          clear hK K
          refine OtS.os_do rfl (by rfl) (by rfl) (fun K hK => ?_)
          go_simp
          refine hK.out _ _ ?_
          (try simp only [Act.put, List.setIfInBounds_toArray, List.set_cons_zero, List.set_cons_succ])
          clear hK K
          refine OtS.os_do rfl (by rfl) (by rfl) (fun K hK => ?_)
          go_simp
          refine hK.out _ _ ?_
          (try simp only [Act.put, List.setIfInBounds_toArray, List.set_cons_zero, List.set_cons_succ])
          clear hK K
          refine OtS.os_nil ?_
          go_wp2_with fail
          go_ret
          exact ⟨by rw [HD.out]; simp, hBe⟩
        · skip
          refine OtS.os_do rfl (by rfl) (by rfl) (fun K hK => ?_)
          have hcv := conv1 _ g (48 + (r : Int)) (48 + r) (by omega) (by omega) (bO.cell 0)
          go_simp
          clear hcv
          refine hK.out _ _ ?_
          (try simp only [Act.put, List.setIfInBounds_toArray, List.set_cons_zero, List.set_cons_succ])
          clear hK K
          refine OtS.os_do rfl (by rfl) (by rfl) (fun K hK => ?_)
          go_simp
          refine (HREC.out _).mono ?_
          rintro e w3 ⟨rfl, hb3⟩
          (try replace bO := bO.all hb3)
          replace hBe := hBe.trans (hb3.mono hBe.size)
          clear hb3
          refine hK.out _ _ ?_
          (try simp only [Act.put, List.setIfInBounds_toArray, List.set_cons_zero, List.set_cons_succ])
          clear hK K
          refine OtS.os_do rfl (by rfl) (by rfl) (fun K hK => ?_)
          go_simp
          refine hK.out _ _ ?_
          (try simp only [Act.put, List.setIfInBounds_toArray, List.set_cons_zero, List.set_cons_succ])
          clear hK K
          refine OtS.os_do rfl (by rfl) (by rfl) (fun K hK => ?_)
          go_simp
          refine hK.out _ _ ?_
          (try simp only [Act.put, List.setIfInBounds_toArray, List.set_cons_zero, List.set_cons_succ])
          clear hK K
          refine OtS.os_nil ?_
          go_wp2_with fail
          go_ret
          exact ⟨by rw [HD.out]; simp, hBe⟩
end Go.Proofs.YtkhkejdkakmiiaaGreatDoor
