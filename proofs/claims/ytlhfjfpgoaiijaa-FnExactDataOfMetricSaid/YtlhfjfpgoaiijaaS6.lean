
/- The walk of l10Is. -/
import Derived.Test.YtlhfjfpgoaiijaaSa
import Derived.Test.YtlhfjfpgoaiijaaBa
import Derived.WalkLawsBesides
namespace Go.Proofs.Ytlhfjfpgoaiijaa
open Go Go.RowKit Grp
set_option linter.unusedSimpArgs false
set_option linter.unusedVariables false

/-- What a metric is. -/
structure IsM (os : List Int) (D : Int) (vs : List Int) : Prop where
  ok : OkM os D vs
  ord : ordB D = true
  zero : gi vs 0 = 0
  neg : ∀ x : Nat, (x : Int) < prodL os → Vl vs (Ng os x) = Vl vs x
  bil : ∀ x y z : Nat, (x : Int) < prodL os → (y : Int) < prodL os → (z : Int) < prodL os → Pr os D vs (Ar os x y) z = (Pr os D vs x z + Pr os D vs y z) % D
open Classical in
noncomputable def isM (os : List Int) (D : Int) (vs : List Int) : Bool := decide (IsM os D vs)
theorem isM_t {os vs : List Int} {D : Int} (h : IsM os D vs) : isM os D vs = true := by simp [isM, h]
theorem isM_f {os vs : List Int} {D : Int} (h : ¬ IsM os D vs) : isM os D vs = false := by simp [isM, h]
theorem isM_iff {os vs : List Int} {D : Int} : isM os D vs = true ↔ IsM os D vs := by simp [isM]

theorem l10Orders_v (b : Bool) (w : World) (B : Nat) (A : Option Addr) (n c : Nat) (xs : List Int) (h : Sl w B A n c xs) (hn : n ≤ 1048576) (hb : okG xs = b) : Calls Try.prog 29 #[.slice A n c] w (Qt w (.bool b)) := hb ▸ l10Orders_any w B A n c xs h hn

theorem l01In_w (b : Bool) (n lo hi : Int) (w : World) (h : inB n lo hi = b) : Calls Try.prog 32 #[.int .i64 n, .int .i64 lo, .int .i64 hi] w (Qt w (.bool b)) := l01In_v b n lo hi w h

set_option maxHeartbeats 1000000 in
theorem l10Is_early (w : World) (A : Option Addr) (n c : Nat) (os : List Int) (D : Int) (A' : Option Addr) (n' c' : Nat) (vs : List Int)
    (h : Sl w w.heap.size A n c os) (h' : Sl w w.heap.size A' n' c' vs) (hn : n ≤ 1048576) (hn' : n' ≤ 1048576) (hno : ¬ (okG os = true ∧ ordB D = true ∧ (vs.length : Int) = prodL os ∧ gi vs 0 = 0)) :
    Calls Try.prog 14 #[.agg #[.slice A n c, .int .i64 D, .slice A' n' c']] w (Re w (.bool (isM os D vs))) := by
  obtain rfl := h'.len
  by_cases hg : okG os = true
  case neg =>
    have hg' : okG os = false := by simpa using hg
    have hF := hide (isM_f (os := os) (vs := vs) (D := D) fun hm => hg (okG_iff.2 hm.ok.g))
    go_enter Try.func14, Try.ntmps14
    go_wp2
    refine wp_region_dr [0, 1, 2, 3, 4, 5, 6, 7, 8, 9, 10, 11, 12, 13, 14, 15, 16, 17, 18, 19, 20, 21, 22, 23, 24, 25] 26 (w.alloc (.cells #[.slice A n c, .int .i64 D, .slice A' vs.length c'] 31)) (by kernel_rfl) (by kernel_rfl) (by kernel_rfl) (fun _ _ _ _ _ h => h) (Dr.refl _) (fun wd hDr => ?_)
    repeat (first | (apply ord_tk rfl (by rfl) (by rfl) (by rfl); (focus (rintro w ⟨dm, rfl⟩; go_simp; (try with_reducible rfl))); (try simp only [Act.put, List.setIfInBounds_toArray, List.set_cons_zero, List.set_cons_succ])) | (apply ord_skip rfl (by rfl) (by rfl) (fun _ => hDr); (try simp only [Act.put, List.setIfInBounds_toArray, List.set_cons_zero, List.set_cons_succ])))
    refine ord_do rfl (by rfl) (by rfl) (fun K hK => ?_)
    go_simp
    refine (l10Orders_v false _ _ _ _ _ _ (h.below (hDr.below (by repeat (first | assumption | exact Below.refl _ _ | apply below_drewN | apply Below.drew | apply Below.alloc | apply Below.setCell | omega | (focus (simp; done)) | (focus (simp; omega)))))) hn hg').mono ?_
    rintro e wd' ⟨rfl, dm, hwd⟩
    replace hDr := hDr.step hwd
    clear hwd
    refine hK.out _ _ (fun _ => hDr) ?_
    (try simp only [Act.put, List.setIfInBounds_toArray, List.set_cons_zero, List.set_cons_succ])
    clear hK K
    repeat (first | (apply ord_tk rfl (by rfl) (by rfl) (by rfl); (focus (rintro w ⟨dm, rfl⟩; go_simp; (try with_reducible rfl))); (try simp only [Act.put, List.setIfInBounds_toArray, List.set_cons_zero, List.set_cons_succ])) | (apply ord_skip rfl (by rfl) (by rfl) (fun _ => hDr); (try simp only [Act.put, List.setIfInBounds_toArray, List.set_cons_zero, List.set_cons_succ])))
    refine ord_nil ?_
    go_wp2
    go_ret
    exact ⟨by rw [hF.out]; rfl, hDr.below (by repeat (first | assumption | exact Below.refl _ _ | apply below_drewN | apply Below.drew | apply Below.alloc | apply Below.setCell | omega | (focus (simp; done)) | (focus (simp; omega))))⟩
  by_cases ho : ordB D = true
  case neg =>
    have ho' : ordB D = false := by simpa using ho
    have hF := hide (isM_f (os := os) (vs := vs) (D := D) fun hm => ho hm.ord)
    go_enter Try.func14, Try.ntmps14
    go_wp2
    refine wp_region_dr [0, 1, 2, 3, 4, 5, 6, 7, 8, 9, 10, 11, 12, 13, 14, 15, 16, 17, 18, 19, 20, 21, 22, 23, 24, 25] 26 (w.alloc (.cells #[.slice A n c, .int .i64 D, .slice A' vs.length c'] 31)) (by kernel_rfl) (by kernel_rfl) (by kernel_rfl) (fun _ _ _ _ _ h => h) (Dr.refl _) (fun wd hDr => ?_)
    repeat (first | (apply ord_tk rfl (by rfl) (by rfl) (by rfl); (focus (rintro w ⟨dm, rfl⟩; go_simp; (try with_reducible rfl))); (try simp only [Act.put, List.setIfInBounds_toArray, List.set_cons_zero, List.set_cons_succ])) | (apply ord_skip rfl (by rfl) (by rfl) (fun _ => hDr); (try simp only [Act.put, List.setIfInBounds_toArray, List.set_cons_zero, List.set_cons_succ])))
    refine ord_do rfl (by rfl) (by rfl) (fun K hK => ?_)
    go_simp
    refine (l10Orders_v true _ _ _ _ _ _ (h.below (hDr.below (by repeat (first | assumption | exact Below.refl _ _ | apply below_drewN | apply Below.drew | apply Below.alloc | apply Below.setCell | omega | (focus (simp; done)) | (focus (simp; omega)))))) hn hg).mono ?_
    rintro e wd' ⟨rfl, dm, hwd⟩
    replace hDr := hDr.step hwd
    clear hwd
    refine hK.out _ _ (fun _ => hDr) ?_
    (try simp only [Act.put, List.setIfInBounds_toArray, List.set_cons_zero, List.set_cons_succ])
    clear hK K
    repeat (first | (apply ord_tk rfl (by rfl) (by rfl) (by rfl); (focus (rintro w ⟨dm, rfl⟩; go_simp; (try with_reducible rfl))); (try simp only [Act.put, List.setIfInBounds_toArray, List.set_cons_zero, List.set_cons_succ])) | (apply ord_skip rfl (by rfl) (by rfl) (fun _ => hDr); (try simp only [Act.put, List.setIfInBounds_toArray, List.set_cons_zero, List.set_cons_succ])))
    refine ord_do rfl (by rfl) (by rfl) (fun K hK => ?_)
    go_simp
    refine (l01Divisor_v false _ _ ho').mono ?_
    rintro e wd' ⟨rfl, dm, hwd⟩
    replace hDr := hDr.step hwd
    clear hwd
    refine hK.out _ _ (fun _ => hDr) ?_
    (try simp only [Act.put, List.setIfInBounds_toArray, List.set_cons_zero, List.set_cons_succ])
    clear hK K
    repeat (first | (apply ord_tk rfl (by rfl) (by rfl) (by rfl); (focus (rintro w ⟨dm, rfl⟩; go_simp; (try with_reducible rfl))); (try simp only [Act.put, List.setIfInBounds_toArray, List.set_cons_zero, List.set_cons_succ])) | (apply ord_skip rfl (by rfl) (by rfl) (fun _ => hDr); (try simp only [Act.put, List.setIfInBounds_toArray, List.set_cons_zero, List.set_cons_succ])))
    refine ord_nil ?_
    go_wp2
    go_ret
    exact ⟨by rw [hF.out]; rfl, hDr.below (by repeat (first | assumption | exact Below.refl _ _ | apply below_drewN | apply Below.drew | apply Below.alloc | apply Below.setCell | omega | (focus (simp; done)) | (focus (simp; omega))))⟩
  have hG : OkG os := okG_iff.1 hg
  by_cases hl : (vs.length : Int) = prodL os
  case neg =>
    have hlb : ((vs.length : Int) != prodL os) = true := by simpa using hl
    have hF := hide (isM_f (os := os) (vs := vs) (D := D) fun hm => hl hm.ok.len)
    go_enter Try.func14, Try.ntmps14
    go_wp2
    refine wp_region_dr [0, 1, 2, 3, 4, 5, 6, 7, 8, 9, 10, 11, 12, 13, 14, 15, 16, 17, 18, 19, 20, 21, 22, 23, 24, 25] 26 (w.alloc (.cells #[.slice A n c, .int .i64 D, .slice A' vs.length c'] 31)) (by kernel_rfl) (by kernel_rfl) (by kernel_rfl) (fun _ _ _ _ _ h => h) (Dr.refl _) (fun wd hDr => ?_)
    repeat (first | (apply ord_tk rfl (by rfl) (by rfl) (by rfl); (focus (rintro w ⟨dm, rfl⟩; go_simp; (try with_reducible rfl))); (try simp only [Act.put, List.setIfInBounds_toArray, List.set_cons_zero, List.set_cons_succ])) | (apply ord_skip rfl (by rfl) (by rfl) (fun _ => hDr); (try simp only [Act.put, List.setIfInBounds_toArray, List.set_cons_zero, List.set_cons_succ])))
    refine ord_do rfl (by rfl) (by rfl) (fun K hK => ?_)
    go_simp
    refine (l10Orders_v true _ _ _ _ _ _ (h.below (hDr.below (by repeat (first | assumption | exact Below.refl _ _ | apply below_drewN | apply Below.drew | apply Below.alloc | apply Below.setCell | omega | (focus (simp; done)) | (focus (simp; omega)))))) hn hg).mono ?_
    rintro e wd' ⟨rfl, dm, hwd⟩
    replace hDr := hDr.step hwd
    clear hwd
    refine hK.out _ _ (fun _ => hDr) ?_
    (try simp only [Act.put, List.setIfInBounds_toArray, List.set_cons_zero, List.set_cons_succ])
    clear hK K
    repeat (first | (apply ord_tk rfl (by rfl) (by rfl) (by rfl); (focus (rintro w ⟨dm, rfl⟩; go_simp; (try with_reducible rfl))); (try simp only [Act.put, List.setIfInBounds_toArray, List.set_cons_zero, List.set_cons_succ])) | (apply ord_skip rfl (by rfl) (by rfl) (fun _ => hDr); (try simp only [Act.put, List.setIfInBounds_toArray, List.set_cons_zero, List.set_cons_succ])))
    refine ord_do rfl (by rfl) (by rfl) (fun K hK => ?_)
    go_simp
    refine (l01Divisor_v true _ _ ho).mono ?_
    rintro e wd' ⟨rfl, dm, hwd⟩
    replace hDr := hDr.step hwd
    clear hwd
    refine hK.out _ _ (fun _ => hDr) ?_
    (try simp only [Act.put, List.setIfInBounds_toArray, List.set_cons_zero, List.set_cons_succ])
    clear hK K
    repeat (first | (apply ord_tk rfl (by rfl) (by rfl) (by rfl); (focus (rintro w ⟨dm, rfl⟩; go_simp; (try with_reducible rfl))); (try simp only [Act.put, List.setIfInBounds_toArray, List.set_cons_zero, List.set_cons_succ])) | (apply ord_skip rfl (by rfl) (by rfl) (fun _ => hDr); (try simp only [Act.put, List.setIfInBounds_toArray, List.set_cons_zero, List.set_cons_succ])))
    refine ord_do rfl (by rfl) (by rfl) (fun K hK => ?_)
    go_simp
    refine (l10Size_any _ _ _ _ _ _ (h.below (hDr.below (by repeat (first | assumption | exact Below.refl _ _ | apply below_drewN | apply Below.drew | apply Below.alloc | apply Below.setCell | omega | (focus (simp; done)) | (focus (simp; omega)))))) hG).mono ?_
    rintro e wd' ⟨rfl, dm, hwd⟩
    replace hDr := hDr.step hwd
    clear hwd
    refine hK.out _ _ (fun _ => hDr) ?_
    (try simp only [Act.put, List.setIfInBounds_toArray, List.set_cons_zero, List.set_cons_succ])
    clear hK K
    repeat (first | (apply ord_tk rfl (by rfl) (by rfl) (by rfl); (focus (rintro w ⟨dm, rfl⟩; go_simp; (try with_reducible rfl))); (try simp only [Act.put, List.setIfInBounds_toArray, List.set_cons_zero, List.set_cons_succ])) | (apply ord_skip rfl (by rfl) (by rfl) (fun _ => hDr); (try simp only [Act.put, List.setIfInBounds_toArray, List.set_cons_zero, List.set_cons_succ])))
    refine ord_nil ?_
    go_wp2
    go_ret
    exact ⟨by rw [hF.out]; rfl, hDr.below (by repeat (first | assumption | exact Below.refl _ _ | apply below_drewN | apply Below.drew | apply Below.alloc | apply Below.setCell | omega | (focus (simp; done)) | (focus (simp; omega))))⟩
  have hl1 : 1 ≤ vs.length := by have := hG.ge; omega
  have hlb : ((vs.length : Int) != prodL os) = false := by simpa using hl
  have hpp : (0 : Int) < prodL os := by have := hG.ge; omega
  obtain ⟨b, off, rfl, hb, hc⟩ := h'.at_ (by omega)
  have c0 := hc 0 (by omega)
  rw [Nat.add_zero] at c0
  by_cases hz : gi vs 0 = 0
  case neg =>
    have hzb : (gi vs 0 != 0) = true := by simpa using hz
    have hF := hide (isM_f (os := os) (vs := vs) (D := D) fun hm => hz hm.zero)
    go_enter Try.func14, Try.ntmps14
    go_wp2
    refine wp_region_dr [0, 1, 2, 3, 4, 5, 6, 7, 8, 9, 10, 11, 12, 13, 14, 15, 16, 17, 18, 19, 20, 21, 22, 23, 24, 25] 26 (w.alloc (.cells #[.slice A n c, .int .i64 D, .slice (some ⟨b, off, none⟩) vs.length c'] 31)) (by kernel_rfl) (by kernel_rfl) (by kernel_rfl) (fun _ _ _ _ _ h => h) (Dr.refl _) (fun wd hDr => ?_)
    repeat (first | (apply ord_tk rfl (by rfl) (by rfl) (by rfl); (focus (rintro w ⟨dm, rfl⟩; go_simp; (try with_reducible rfl))); (try simp only [Act.put, List.setIfInBounds_toArray, List.set_cons_zero, List.set_cons_succ])) | (apply ord_skip rfl (by rfl) (by rfl) (fun _ => hDr); (try simp only [Act.put, List.setIfInBounds_toArray, List.set_cons_zero, List.set_cons_succ])))
    refine ord_do rfl (by rfl) (by rfl) (fun K hK => ?_)
    go_simp
    refine (l10Orders_v true _ _ _ _ _ _ (h.below (hDr.below (by repeat (first | assumption | exact Below.refl _ _ | apply below_drewN | apply Below.drew | apply Below.alloc | apply Below.setCell | omega | (focus (simp; done)) | (focus (simp; omega)))))) hn hg).mono ?_
    rintro e wd' ⟨rfl, dm, hwd⟩
    replace hDr := hDr.step hwd
    clear hwd
    refine hK.out _ _ (fun _ => hDr) ?_
    (try simp only [Act.put, List.setIfInBounds_toArray, List.set_cons_zero, List.set_cons_succ])
    clear hK K
    repeat (first | (apply ord_tk rfl (by rfl) (by rfl) (by rfl); (focus (rintro w ⟨dm, rfl⟩; go_simp; (try with_reducible rfl))); (try simp only [Act.put, List.setIfInBounds_toArray, List.set_cons_zero, List.set_cons_succ])) | (apply ord_skip rfl (by rfl) (by rfl) (fun _ => hDr); (try simp only [Act.put, List.setIfInBounds_toArray, List.set_cons_zero, List.set_cons_succ])))
    refine ord_do rfl (by rfl) (by rfl) (fun K hK => ?_)
    go_simp
    refine (l01Divisor_v true _ _ ho).mono ?_
    rintro e wd' ⟨rfl, dm, hwd⟩
    replace hDr := hDr.step hwd
    clear hwd
    refine hK.out _ _ (fun _ => hDr) ?_
    (try simp only [Act.put, List.setIfInBounds_toArray, List.set_cons_zero, List.set_cons_succ])
    clear hK K
    repeat (first | (apply ord_tk rfl (by rfl) (by rfl) (by rfl); (focus (rintro w ⟨dm, rfl⟩; go_simp; (try with_reducible rfl))); (try simp only [Act.put, List.setIfInBounds_toArray, List.set_cons_zero, List.set_cons_succ])) | (apply ord_skip rfl (by rfl) (by rfl) (fun _ => hDr); (try simp only [Act.put, List.setIfInBounds_toArray, List.set_cons_zero, List.set_cons_succ])))
    refine ord_do rfl (by rfl) (by rfl) (fun K hK => ?_)
    go_simp
    refine (l10Size_any _ _ _ _ _ _ (h.below (hDr.below (by repeat (first | assumption | exact Below.refl _ _ | apply below_drewN | apply Below.drew | apply Below.alloc | apply Below.setCell | omega | (focus (simp; done)) | (focus (simp; omega)))))) hG).mono ?_
    rintro e wd' ⟨rfl, dm, hwd⟩
    replace hDr := hDr.step hwd
    clear hwd
    refine hK.out _ _ (fun _ => hDr) ?_
    (try simp only [Act.put, List.setIfInBounds_toArray, List.set_cons_zero, List.set_cons_succ])
    clear hK K
    repeat (first | (apply ord_tk rfl (by rfl) (by rfl) (by rfl); (focus (rintro w ⟨dm, rfl⟩; go_simp; (try with_reducible rfl))); (try simp only [Act.put, List.setIfInBounds_toArray, List.set_cons_zero, List.set_cons_succ])) | (apply ord_skip rfl (by rfl) (by rfl) (fun _ => hDr); (try simp only [Act.put, List.setIfInBounds_toArray, List.set_cons_zero, List.set_cons_succ])))
    refine ord_nil ?_
    go_wp2
    go_ret
    exact ⟨by rw [hF.out]; rfl, hDr.below (by repeat (first | assumption | exact Below.refl _ _ | apply below_drewN | apply Below.drew | apply Below.alloc | apply Below.setCell | omega | (focus (simp; done)) | (focus (simp; omega))))⟩
  exact absurd ⟨hg, ho, hl, hz⟩ hno
end Go.Proofs.Ytlhfjfpgoaiijaa
