
/- The walk of l10Is. The walk of l10Is, where nothing fails ahead of its loops. -/
import Derived.Test.YtonehmjoolflfaaGreatDoorSa
import Derived.Test.YtonehmjoolflfaaGreatDoorBa
import Derived.WalkLawsBesides
namespace Go.Proofs.YtonehmjoolflfaaGreatDoor
open Go Go.RowKit Grp
set_option linter.unusedSimpArgs false
set_option linter.unusedVariables false

/-- What a metric is. -/
structure IsM (os : List Int) (D : Int) (vs : List Int) : Prop where
  ok : OkM os D vs
  ord : ordB D = true
  zero : gi vs 0 = 0
  neg : ∀ x : Nat, (x : Int) < prodL os → Vl vs (Ng os x) = Vl vs x
  bil : ∀ x y z : Nat, (x : Int) < prodL os → (y : Int) < prodL os → (z : Int) < prodL os → Pr os D vs (Ar os x y) z = (Pr os D vs x z + Pr os D vs y z) % D
open Classical in
noncomputable def isM (os : List Int) (D : Int) (vs : List Int) : Bool := decide (IsM os D vs)
theorem isM_t {os vs : List Int} {D : Int} (h : IsM os D vs) : isM os D vs = true := by simp [isM, h]
theorem isM_f {os vs : List Int} {D : Int} (h : ¬ IsM os D vs) : isM os D vs = false := by simp [isM, h]
theorem isM_iff {os vs : List Int} {D : Int} : isM os D vs = true ↔ IsM os D vs := by simp [isM]

theorem l10Orders_v (b : Bool) (w : World) (B : Nat) (A : Option Addr) (n c : Nat) (xs : List Int) (h : Sl w B A n c xs) (hn : n ≤ 1073741824) (hb : okG xs = b) : Calls Tryz.prog 65 #[.slice A n c] w (Qt w (.bool b)) := hb ▸ l10Orders_any w B A n c xs h hn

theorem l01In_w (b : Bool) (n lo hi : Int) (w : World) (h : inB n lo hi = b) : Calls Tryz.prog 66 #[.int .i64 n, .int .i64 lo, .int .i64 hi] w (Qt w (.bool b)) := l01In_v b n lo hi w h

set_option maxHeartbeats 1000000 in
theorem l10Is_early (w : World) (A : Option Addr) (n c : Nat) (os : List Int) (D : Int) (A' : Option Addr) (n' c' : Nat) (vs : List Int)
    (h : Sl w w.heap.size A n c os) (h' : Sl w w.heap.size A' n' c' vs) (hn : n ≤ 1073741824) (hn' : n' ≤ 1073741824) (hno : ¬ (okG os = true ∧ ordB D = true ∧ (vs.length : Int) = prodL os ∧ gi vs 0 = 0)) :
    Calls Tryz.prog 27 #[.agg #[.slice A n c, .int .i64 D, .slice A' n' c']] w (Re w (.bool (isM os D vs))) := by
  obtain rfl := h'.len
  by_cases hg : okG os = true
  case neg =>
    have hg' : okG os = false := by simpa using hg
    have hF := hide (isM_f (os := os) (vs := vs) (D := D) fun hm => hg (okG_iff.2 hm.ok.g))
    go_enter Tryz.func27, Tryz.ntmps27
    go_wp2
    refine wp_region_dr [0, 1, 2, 3, 4, 5, 6, 7, 8, 9, 10, 11, 12, 13, 14, 15, 16, 17, 18, 19, 20, 21, 22, 23, 24, 25] 26 (w.alloc (.cells #[.slice A n c, .int .i64 D, .slice A' vs.length c'] 26)) (by kernel_rfl) (by kernel_rfl) (by kernel_rfl) (fun _ _ _ _ _ h => h) (Dr.refl _) (fun wd hDr => ?_)
    repeat (first | (apply ord_tk rfl (by rfl) (by rfl) (by rfl); (focus (rintro w ⟨dm, rfl⟩; go_simp; (try with_reducible rfl))); (try simp only [Act.put, List.setIfInBounds_toArray, List.set_cons_zero, List.set_cons_succ])) | (apply ord_skip rfl (by rfl) (by rfl) (fun _ => hDr); (try simp only [Act.put, List.setIfInBounds_toArray, List.set_cons_zero, List.set_cons_succ])))
    refine ord_do rfl (by rfl) (by rfl) (fun K hK => ?_)
    go_simp
    refine (l10Orders_v false _ _ _ _ _ _ (h.below (hDr.below (by repeat (first | assumption | exact Below.refl _ _ | apply below_drewN | apply Below.drew | apply Below.alloc | apply Below.setCell | omega | (focus (simp; done)) | (focus (simp; omega)))))) hn hg').mono ?_
    rintro e wd' ⟨rfl, dm, hwd⟩
    replace hDr := hDr.step hwd
    clear hwd
    refine hK.out _ _ (fun _ => hDr) ?_
    (try simp only [Act.put, List.setIfInBounds_toArray, List.set_cons_zero, List.set_cons_succ])
    clear hK K
    repeat (first | (apply ord_tk rfl (by rfl) (by rfl) (by rfl); (focus (rintro w ⟨dm, rfl⟩; go_simp; (try with_reducible rfl))); (try simp only [Act.put, List.setIfInBounds_toArray, List.set_cons_zero, List.set_cons_succ])) | (apply ord_skip rfl (by rfl) (by rfl) (fun _ => hDr); (try simp only [Act.put, List.setIfInBounds_toArray, List.set_cons_zero, List.set_cons_succ])))
    refine ord_nil ?_
    go_wp2
    go_ret
    exact ⟨by rw [hF.out]; rfl, hDr.below (by repeat (first | assumption | exact Below.refl _ _ | apply below_drewN | apply Below.drew | apply Below.alloc | apply Below.setCell | omega | (focus (simp; done)) | (focus (simp; omega))))⟩
  by_cases ho : ordB D = true
  case neg =>
    have ho' : ordB D = false := by simpa using ho
    have hF := hide (isM_f (os := os) (vs := vs) (D := D) fun hm => ho hm.ord)
    go_enter Tryz.func27, Tryz.ntmps27
    go_wp2
    refine wp_region_dr [0, 1, 2, 3, 4, 5, 6, 7, 8, 9, 10, 11, 12, 13, 14, 15, 16, 17, 18, 19, 20, 21, 22, 23, 24, 25] 26 (w.alloc (.cells #[.slice A n c, .int .i64 D, .slice A' vs.length c'] 26)) (by kernel_rfl) (by kernel_rfl) (by kernel_rfl) (fun _ _ _ _ _ h => h) (Dr.refl _) (fun wd hDr => ?_)
    repeat (first | (apply ord_tk rfl (by rfl) (by rfl) (by rfl); (focus (rintro w ⟨dm, rfl⟩; go_simp; (try with_reducible rfl))); (try simp only [Act.put, List.setIfInBounds_toArray, List.set_cons_zero, List.set_cons_succ])) | (apply ord_skip rfl (by rfl) (by rfl) (fun _ => hDr); (try simp only [Act.put, List.setIfInBounds_toArray, List.set_cons_zero, List.set_cons_succ])))
    refine ord_do rfl (by rfl) (by rfl) (fun K hK => ?_)
    go_simp
    refine (l10Orders_v true _ _ _ _ _ _ (h.below (hDr.below (by repeat (first | assumption | exact Below.refl _ _ | apply below_drewN | apply Below.drew | apply Below.alloc | apply Below.setCell | omega | (focus (simp; done)) | (focus (simp; omega)))))) hn hg).mono ?_
    rintro e wd' ⟨rfl, dm, hwd⟩
    replace hDr := hDr.step hwd
    clear hwd
    refine hK.out _ _ (fun _ => hDr) ?_
    (try simp only [Act.put, List.setIfInBounds_toArray, List.set_cons_zero, List.set_cons_succ])
    clear hK K
    repeat (first | (apply ord_tk rfl (by rfl) (by rfl) (by rfl); (focus (rintro w ⟨dm, rfl⟩; go_simp; (try with_reducible rfl))); (try simp only [Act.put, List.setIfInBounds_toArray, List.set_cons_zero, List.set_cons_succ])) | (apply ord_skip rfl (by rfl) (by rfl) (fun _ => hDr); (try simp only [Act.put, List.setIfInBounds_toArray, List.set_cons_zero, List.set_cons_succ])))
    refine ord_do rfl (by rfl) (by rfl) (fun K hK => ?_)
    go_simp
    refine (l01Divisor_v false _ _ ho').mono ?_
    rintro e wd' ⟨rfl, dm, hwd⟩
    replace hDr := hDr.step hwd
    clear hwd
    refine hK.out _ _ (fun _ => hDr) ?_
    (try simp only [Act.put, List.setIfInBounds_toArray, List.set_cons_zero, List.set_cons_succ])
    clear hK K
    repeat (first | (apply ord_tk rfl (by rfl) (by rfl) (by rfl); (focus (rintro w ⟨dm, rfl⟩; go_simp; (try with_reducible rfl))); (try simp only [Act.put, List.setIfInBounds_toArray, List.set_cons_zero, List.set_cons_succ])) | (apply ord_skip rfl (by rfl) (by rfl) (fun _ => hDr); (try simp only [Act.put, List.setIfInBounds_toArray, List.set_cons_zero, List.set_cons_succ])))
    refine ord_nil ?_
    go_wp2
    go_ret
    exact ⟨by rw [hF.out]; rfl, hDr.below (by repeat (first | assumption | exact Below.refl _ _ | apply below_drewN | apply Below.drew | apply Below.alloc | apply Below.setCell | omega | (focus (simp; done)) | (focus (simp; omega))))⟩
  have hG : OkG os := okG_iff.1 hg
  by_cases hl : (vs.length : Int) = prodL os
  case neg =>
    have hlb : ((vs.length : Int) != prodL os) = true := by simpa using hl
    have hF := hide (isM_f (os := os) (vs := vs) (D := D) fun hm => hl hm.ok.len)
    go_enter Tryz.func27, Tryz.ntmps27
    go_wp2
    refine wp_region_dr [0, 1, 2, 3, 4, 5, 6, 7, 8, 9, 10, 11, 12, 13, 14, 15, 16, 17, 18, 19, 20, 21, 22, 23, 24, 25] 26 (w.alloc (.cells #[.slice A n c, .int .i64 D, .slice A' vs.length c'] 26)) (by kernel_rfl) (by kernel_rfl) (by kernel_rfl) (fun _ _ _ _ _ h => h) (Dr.refl _) (fun wd hDr => ?_)
    repeat (first | (apply ord_tk rfl (by rfl) (by rfl) (by rfl); (focus (rintro w ⟨dm, rfl⟩; go_simp; (try with_reducible rfl))); (try simp only [Act.put, List.setIfInBounds_toArray, List.set_cons_zero, List.set_cons_succ])) | (apply ord_skip rfl (by rfl) (by rfl) (fun _ => hDr); (try simp only [Act.put, List.setIfInBounds_toArray, List.set_cons_zero, List.set_cons_succ])))
    refine ord_do rfl (by rfl) (by rfl) (fun K hK => ?_)
    go_simp
    refine (l10Orders_v true _ _ _ _ _ _ (h.below (hDr.below (by repeat (first | assumption | exact Below.refl _ _ | apply below_drewN | apply Below.drew | apply Below.alloc | apply Below.setCell | omega | (focus (simp; done)) | (focus (simp; omega)))))) hn hg).mono ?_
    rintro e wd' ⟨rfl, dm, hwd⟩
    replace hDr := hDr.step hwd
    clear hwd
    refine hK.out _ _ (fun _ => hDr) ?_
    (try simp only [Act.put, List.setIfInBounds_toArray, List.set_cons_zero, List.set_cons_succ])
    clear hK K
    repeat (first | (apply ord_tk rfl (by rfl) (by rfl) (by rfl); (focus (rintro w ⟨dm, rfl⟩; go_simp; (try with_reducible rfl))); (try simp only [Act.put, List.setIfInBounds_toArray, List.set_cons_zero, List.set_cons_succ])) | (apply ord_skip rfl (by rfl) (by rfl) (fun _ => hDr); (try simp only [Act.put, List.setIfInBounds_toArray, List.set_cons_zero, List.set_cons_succ])))
    refine ord_do rfl (by rfl) (by rfl) (fun K hK => ?_)
    go_simp
    refine (l01Divisor_v true _ _ ho).mono ?_
    rintro e wd' ⟨rfl, dm, hwd⟩
    replace hDr := hDr.step hwd
    clear hwd
    refine hK.out _ _ (fun _ => hDr) ?_
    (try simp only [Act.put, List.setIfInBounds_toArray, List.set_cons_zero, List.set_cons_succ])
    clear hK K
    repeat (first | (apply ord_tk rfl (by rfl) (by rfl) (by rfl); (focus (rintro w ⟨dm, rfl⟩; go_simp; (try with_reducible rfl))); (try simp only [Act.put, List.setIfInBounds_toArray, List.set_cons_zero, List.set_cons_succ])) | (apply ord_skip rfl (by rfl) (by rfl) (fun _ => hDr); (try simp only [Act.put, List.setIfInBounds_toArray, List.set_cons_zero, List.set_cons_succ])))
    refine ord_do rfl (by rfl) (by rfl) (fun K hK => ?_)
    go_simp
    refine (l10Size_any _ _ _ _ _ _ (h.below (hDr.below (by repeat (first | assumption | exact Below.refl _ _ | apply below_drewN | apply Below.drew | apply Below.alloc | apply Below.setCell | omega | (focus (simp; done)) | (focus (simp; omega)))))) hG).mono ?_
    rintro e wd' ⟨rfl, dm, hwd⟩
    replace hDr := hDr.step hwd
    clear hwd
    refine hK.out _ _ (fun _ => hDr) ?_
    (try simp only [Act.put, List.setIfInBounds_toArray, List.set_cons_zero, List.set_cons_succ])
    clear hK K
    repeat (first | (apply ord_tk rfl (by rfl) (by rfl) (by rfl); (focus (rintro w ⟨dm, rfl⟩; go_simp; (try with_reducible rfl))); (try simp only [Act.put, List.setIfInBounds_toArray, List.set_cons_zero, List.set_cons_succ])) | (apply ord_skip rfl (by rfl) (by rfl) (fun _ => hDr); (try simp only [Act.put, List.setIfInBounds_toArray, List.set_cons_zero, List.set_cons_succ])))
    refine ord_nil ?_
    go_wp2
    go_ret
    exact ⟨by rw [hF.out]; rfl, hDr.below (by repeat (first | assumption | exact Below.refl _ _ | apply below_drewN | apply Below.drew | apply Below.alloc | apply Below.setCell | omega | (focus (simp; done)) | (focus (simp; omega))))⟩
  have hl1 : 1 ≤ vs.length := by have := hG.ge; omega
  have hlb : ((vs.length : Int) != prodL os) = false := by simpa using hl
  have hpp : (0 : Int) < prodL os := by have := hG.ge; omega
  obtain ⟨b, off, rfl, hb, hc⟩ := h'.at_ (by omega)
  have c0 := hc 0 (by omega)
  rw [Nat.add_zero] at c0
  by_cases hz : gi vs 0 = 0
  case neg =>
    have hzb : (gi vs 0 != 0) = true := by simpa using hz
    have hF := hide (isM_f (os := os) (vs := vs) (D := D) fun hm => hz hm.zero)
    go_enter Tryz.func27, Tryz.ntmps27
    go_wp2
    refine wp_region_dr [0, 1, 2, 3, 4, 5, 6, 7, 8, 9, 10, 11, 12, 13, 14, 15, 16, 17, 18, 19, 20, 21, 22, 23, 24, 25] 26 (w.alloc (.cells #[.slice A n c, .int .i64 D, .slice (some ⟨b, off, none⟩) vs.length c'] 26)) (by kernel_rfl) (by kernel_rfl) (by kernel_rfl) (fun _ _ _ _ _ h => h) (Dr.refl _) (fun wd hDr => ?_)
    repeat (first | (apply ord_tk rfl (by rfl) (by rfl) (by rfl); (focus (rintro w ⟨dm, rfl⟩; go_simp; (try with_reducible rfl))); (try simp only [Act.put, List.setIfInBounds_toArray, List.set_cons_zero, List.set_cons_succ])) | (apply ord_skip rfl (by rfl) (by rfl) (fun _ => hDr); (try simp only [Act.put, List.setIfInBounds_toArray, List.set_cons_zero, List.set_cons_succ])))
    refine ord_do rfl (by rfl) (by rfl) (fun K hK => ?_)
    go_simp
    refine (l10Orders_v true _ _ _ _ _ _ (h.below (hDr.below (by repeat (first | assumption | exact Below.refl _ _ | apply below_drewN | apply Below.drew | apply Below.alloc | apply Below.setCell | omega | (focus (simp; done)) | (focus (simp; omega)))))) hn hg).mono ?_
    rintro e wd' ⟨rfl, dm, hwd⟩
    replace hDr := hDr.step hwd
    clear hwd
    refine hK.out _ _ (fun _ => hDr) ?_
    (try simp only [Act.put, List.setIfInBounds_toArray, List.set_cons_zero, List.set_cons_succ])
    clear hK K
    repeat (first | (apply ord_tk rfl (by rfl) (by rfl) (by rfl); (focus (rintro w ⟨dm, rfl⟩; go_simp; (try with_reducible rfl))); (try simp only [Act.put, List.setIfInBounds_toArray, List.set_cons_zero, List.set_cons_succ])) | (apply ord_skip rfl (by rfl) (by rfl) (fun _ => hDr); (try simp only [Act.put, List.setIfInBounds_toArray, List.set_cons_zero, List.set_cons_succ])))
    refine ord_do rfl (by rfl) (by rfl) (fun K hK => ?_)
    go_simp
    refine (l01Divisor_v true _ _ ho).mono ?_
    rintro e wd' ⟨rfl, dm, hwd⟩
    replace hDr := hDr.step hwd
    clear hwd
    refine hK.out _ _ (fun _ => hDr) ?_
    (try simp only [Act.put, List.setIfInBounds_toArray, List.set_cons_zero, List.set_cons_succ])
    clear hK K
    repeat (first | (apply ord_tk rfl (by rfl) (by rfl) (by rfl); (focus (rintro w ⟨dm, rfl⟩; go_simp; (try with_reducible rfl))); (try simp only [Act.put, List.setIfInBounds_toArray, List.set_cons_zero, List.set_cons_succ])) | (apply ord_skip rfl (by rfl) (by rfl) (fun _ => hDr); (try simp only [Act.put, List.setIfInBounds_toArray, List.set_cons_zero, List.set_cons_succ])))
    refine ord_do rfl (by rfl) (by rfl) (fun K hK => ?_)
    go_simp
    refine (l10Size_any _ _ _ _ _ _ (h.below (hDr.below (by repeat (first | assumption | exact Below.refl _ _ | apply below_drewN | apply Below.drew | apply Below.alloc | apply Below.setCell | omega | (focus (simp; done)) | (focus (simp; omega)))))) hG).mono ?_
    rintro e wd' ⟨rfl, dm, hwd⟩
    replace hDr := hDr.step hwd
    clear hwd
    refine hK.out _ _ (fun _ => hDr) ?_
    (try simp only [Act.put, List.setIfInBounds_toArray, List.set_cons_zero, List.set_cons_succ])
    clear hK K
    repeat (first | (apply ord_tk rfl (by rfl) (by rfl) (by rfl); (focus (rintro w ⟨dm, rfl⟩; go_simp; (try with_reducible rfl))); (try simp only [Act.put, List.setIfInBounds_toArray, List.set_cons_zero, List.set_cons_succ])) | (apply ord_skip rfl (by rfl) (by rfl) (fun _ => hDr); (try simp only [Act.put, List.setIfInBounds_toArray, List.set_cons_zero, List.set_cons_succ])))
    refine ord_nil ?_
    go_wp2
    go_ret
    exact ⟨by rw [hF.out]; rfl, hDr.below (by repeat (first | assumption | exact Below.refl _ _ | apply below_drewN | apply Below.drew | apply Below.alloc | apply Below.setCell | omega | (focus (simp; done)) | (focus (simp; omega))))⟩
  exact absurd ⟨hg, ho, hl, hz⟩ hno

theorem bil_iff {a p D : Int} (h1 : 1 ≤ D) (p0 : 0 ≤ p) (p1 : p < D) : (a - p).tmod D = 0 ↔ p = a % D := by
  rw [← Int.dvd_iff_tmod_eq_zero, Int.dvd_iff_emod_eq_zero]
  have e : p % D = p := Int.emod_eq_of_lt p0 p1
  constructor
  · intro h
    have := Int.emod_eq_emod_iff_emod_sub_eq_zero.2 h
    omega
  · intro h
    refine Int.emod_eq_emod_iff_emod_sub_eq_zero.1 ?_
    omega
set_option maxHeartbeats 4000000 in
theorem l10Is_main (w : World) (A : Option Addr) (n c : Nat) (os : List Int) (D : Int) (b off : Nat) (c' : Nat) (vs : List Int)
    (h : Sl w w.heap.size A n c os) (h' : Sl w w.heap.size (some ⟨b, off, none⟩) vs.length c' vs) (hn : n ≤ 1073741824) (hn' : vs.length ≤ 1073741824)
    (hg : okG os = true) (ho : ordB D = true) (hl : (vs.length : Int) = prodL os) (hz : gi vs 0 = 0) (hb : b < w.heap.size) (hc : ∀ k, k < vs.length → w.cell? ⟨b, off + k, none⟩ = some (.int .i64 (gi vs k))) :
    Calls Tryz.prog 27 #[.agg #[.slice A n c, .int .i64 D, .slice (some ⟨b, off, none⟩) vs.length c']] w (Re w (.bool (isM os D vs))) := by
  have hG : OkG os := okG_iff.1 hg
  have hpp : (0 : Int) < prodL os := by have := hG.ge; omega
  have hp16 := hG.p16
  have hlb : ((vs.length : Int) != prodL os) = false := by simpa using hl
  have c0 := hc 0 (by omega)
  rw [Nat.add_zero] at c0
  have hzb : (gi vs 0 != 0) = false := by simpa using hz
  go_enter Tryz.func27, Tryz.ntmps27
  go_wp2
  refine wp_region_dr [0, 1, 2, 3, 4, 5, 6, 7, 8, 9, 10, 11, 12, 13, 14, 15, 16, 17, 18, 19, 20, 21, 22, 23, 24, 25] 26 (w.alloc (.cells #[.slice A n c, .int .i64 D, .slice (some ⟨b, off, none⟩) vs.length c'] 26)) (by kernel_rfl) (by kernel_rfl) (by kernel_rfl) (fun _ _ _ _ _ h => h) (Dr.refl _) (fun wd hDr => ?_)
  repeat (first | (apply ord_tk rfl (by rfl) (by rfl) (by rfl); (focus (rintro w ⟨dm, rfl⟩; go_simp; (try with_reducible rfl))); (try simp only [Act.put, List.setIfInBounds_toArray, List.set_cons_zero, List.set_cons_succ])) | (apply ord_skip rfl (by rfl) (by rfl) (fun _ => hDr); (try simp only [Act.put, List.setIfInBounds_toArray, List.set_cons_zero, List.set_cons_succ])))
  refine ord_do rfl (by rfl) (by rfl) (fun K hK => ?_)
  go_simp
  refine (l10Orders_v true _ _ _ _ _ _ (h.below (hDr.below (by repeat (first | assumption | exact Below.refl _ _ | apply below_drewN | apply Below.drew | apply Below.alloc | apply Below.setCell | omega | (focus (simp; done)) | (focus (simp; omega)))))) hn hg).mono ?_
  rintro e wd' ⟨rfl, dm, hwd⟩
  replace hDr := hDr.step hwd
  clear hwd
  refine hK.out _ _ (fun _ => hDr) ?_
  (try simp only [Act.put, List.setIfInBounds_toArray, List.set_cons_zero, List.set_cons_succ])
  clear hK K
  repeat (first | (apply ord_tk rfl (by rfl) (by rfl) (by rfl); (focus (rintro w ⟨dm, rfl⟩; go_simp; (try with_reducible rfl))); (try simp only [Act.put, List.setIfInBounds_toArray, List.set_cons_zero, List.set_cons_succ])) | (apply ord_skip rfl (by rfl) (by rfl) (fun _ => hDr); (try simp only [Act.put, List.setIfInBounds_toArray, List.set_cons_zero, List.set_cons_succ])))
  refine ord_do rfl (by rfl) (by rfl) (fun K hK => ?_)
  go_simp
  refine (l01Divisor_v true _ _ ho).mono ?_
  rintro e wd' ⟨rfl, dm, hwd⟩
  replace hDr := hDr.step hwd
  clear hwd
  refine hK.out _ _ (fun _ => hDr) ?_
  (try simp only [Act.put, List.setIfInBounds_toArray, List.set_cons_zero, List.set_cons_succ])
  clear hK K
  repeat (first | (apply ord_tk rfl (by rfl) (by rfl) (by rfl); (focus (rintro w ⟨dm, rfl⟩; go_simp; (try with_reducible rfl))); (try simp only [Act.put, List.setIfInBounds_toArray, List.set_cons_zero, List.set_cons_succ])) | (apply ord_skip rfl (by rfl) (by rfl) (fun _ => hDr); (try simp only [Act.put, List.setIfInBounds_toArray, List.set_cons_zero, List.set_cons_succ])))
  refine ord_do rfl (by rfl) (by rfl) (fun K hK => ?_)
  go_simp
  refine (l10Size_any _ _ _ _ _ _ (h.below (hDr.below (by repeat (first | assumption | exact Below.refl _ _ | apply below_drewN | apply Below.drew | apply Below.alloc | apply Below.setCell | omega | (focus (simp; done)) | (focus (simp; omega)))))) hG).mono ?_
  rintro e wd' ⟨rfl, dm, hwd⟩
  replace hDr := hDr.step hwd
  clear hwd
  refine hK.out _ _ (fun _ => hDr) ?_
  (try simp only [Act.put, List.setIfInBounds_toArray, List.set_cons_zero, List.set_cons_succ])
  clear hK K
  repeat (first | (apply ord_tk rfl (by rfl) (by rfl) (by rfl); (focus (rintro w ⟨dm, rfl⟩; go_simp; (try with_reducible rfl))); (try simp only [Act.put, List.setIfInBounds_toArray, List.set_cons_zero, List.set_cons_succ])) | (apply ord_skip rfl (by rfl) (by rfl) (fun _ => hDr); (try simp only [Act.put, List.setIfInBounds_toArray, List.set_cons_zero, List.set_cons_succ])))
  refine ord_nil ?_
  have hbW : Below w.heap.size w wd' := hDr.below (by repeat (first | assumption | exact Below.refl _ _ | apply below_drewN | apply Below.drew | apply Below.alloc | apply Below.setCell | omega | (focus (simp; done)) | (focus (simp; omega))))
  have hszW : w.heap.size < wd'.heap.size := by obtain ⟨k, rfl⟩ := hDr; simp
  have q0 : wd'.cell? ⟨w.heap.size, 0, none⟩ = some (.slice A n c) := by obtain ⟨k, rfl⟩ := hDr; go_simp
  have q1 : wd'.cell? ⟨w.heap.size, 1, none⟩ = some (.int .i64 D) := by obtain ⟨k, rfl⟩ := hDr; go_simp
  have q2 : wd'.cell? ⟨w.heap.size, 2, none⟩ = some (.slice (some ⟨b, off, none⟩) vs.length c') := by obtain ⟨k, rfl⟩ := hDr; go_simp
  have hs := h.below hbW
  have hs' := h'.below hbW
  clear hDr
  obtain ⟨W, hW⟩ : ∃ W, wd' = W := ⟨_, rfl⟩
  rw [hW] at hbW hszW q0 q1 q2 hs hs' ⊢
  clear hW
  obtain ⟨G, hGW⟩ : ∃ G, W.heap.size = G := ⟨_, rfl⟩
  go_wp2_with fail
  refine (l10Size_any _ _ _ _ _ _ hs hG).mono ?_
  rintro e wd2 ⟨rfl, hDr⟩
  rw [← hl]
  have hd1 : 1 ≤ D ∧ D ≤ 55440 := by
    have h1 := ordB_iff.1 ho
    have := Int.le_of_dvd (by omega) (Int.dvd_of_emod_eq_zero h1.2)
    exact ⟨h1.1, this⟩
  have t1 : IntKind.i64.wrap (D - 1) = D - 1 := wrap_in (by omega) (by omega)
  have hn16 : vs.length ≤ 16 := by omega
  have hL := hide hl
  clear hl hlb hpp hp16
  go_wp2_with fail
  go_loopw [4] (fun i wr => ∃ k : Nat, k ≤ vs.length ∧ i = .int .i64 k ∧ (∀ j, j < k → 0 ≤ gi vs j ∧ gi vs j < D) ∧ Dr W wr) (fun i _ => vs.length - (intOf i).toNat)
  case atStart => exact ⟨0, by omega, rfl, fun j hj => absurd hj (by omega), hDr⟩
  case round =>
    clear hDr
    obtain ⟨k, hk, rfl, hpre, hDr⟩ := hrel
    have hP := hide hpre
    clear hpre
    by_cases hlt : k < vs.length
    · have c1 := (hbW.cell (p := ⟨b, off + k, none⟩) hb).trans (hc k hlt)
      by_cases hv : 0 ≤ gi vs k ∧ gi vs k ≤ D - 1
      · obtain ⟨v, ev⟩ : ∃ v, gi vs k = v := ⟨_, rfl⟩
        have hEV := hide ev
        rw [ev] at c1 hv
        clear ev
        go_wp2
        refine wp_region_dr [0, 1, 2, 3, 4, 5, 6, 7, 8, 9] 10 W (by kernel_rfl) (by kernel_rfl) (by kernel_rfl) (fun _ _ _ _ _ h => h) hDr (fun wd hDr => ?_)
        repeat (first | (apply ord_tk rfl (by rfl) (by rfl) (by rfl); (focus (rintro w ⟨dm, rfl⟩; go_simp; (try with_reducible rfl))); (try simp only [Act.put, List.setIfInBounds_toArray, List.set_cons_zero, List.set_cons_succ])) | (apply ord_skip rfl (by rfl) (by rfl) (fun _ => hDr); (try simp only [Act.put, List.setIfInBounds_toArray, List.set_cons_zero, List.set_cons_succ])))
        refine ord_do rfl (by rfl) (by rfl) (fun K hK => ?_)
        go_simp
        refine (l01In_v true _ _ _ _ (inB_t hv.1 hv.2)).mono ?_
        rintro e wd' ⟨rfl, dm, hwd⟩
        replace hDr := hDr.step hwd
        clear hwd
        refine hK.out _ _ (fun _ => hDr) ?_
        (try simp only [Act.put, List.setIfInBounds_toArray, List.set_cons_zero, List.set_cons_succ])
        clear hK K
        repeat (first | (apply ord_tk rfl (by rfl) (by rfl) (by rfl); (focus (rintro w ⟨dm, rfl⟩; go_simp; (try with_reducible rfl))); (try simp only [Act.put, List.setIfInBounds_toArray, List.set_cons_zero, List.set_cons_succ])) | (apply ord_skip rfl (by rfl) (by rfl) (fun _ => hDr); (try simp only [Act.put, List.setIfInBounds_toArray, List.set_cons_zero, List.set_cons_succ])))
        refine ord_nil ?_
        go_wp2
        go_roundw
        case rel => exact ⟨k + 1, by omega, by go_num, fun j hj => by rcases Nat.lt_succ_iff_lt_or_eq.1 hj with h | rfl; exact hP.out j h; rw [hEV.out]; omega, hDr⟩
        case measure => simp [intOf] <;> omega
      · have hF := hide (isM_f (os := os) (vs := vs) (D := D) fun hm => hv (by have := (hm.ok.vl (k := k) (by have := hL.out; omega)).2; omega))
        obtain ⟨v, ev⟩ : ∃ v, gi vs k = v := ⟨_, rfl⟩
        rw [ev] at c1 hv
        clear ev
        go_wp2
        refine wp_region_dr [0, 1, 2, 3, 4, 5, 6, 7, 8, 9] 10 W (by kernel_rfl) (by kernel_rfl) (by kernel_rfl) (fun _ _ _ _ _ h => h) hDr (fun wd hDr => ?_)
        repeat (first | (apply ord_tk rfl (by rfl) (by rfl) (by rfl); (focus (rintro w ⟨dm, rfl⟩; go_simp; (try with_reducible rfl))); (try simp only [Act.put, List.setIfInBounds_toArray, List.set_cons_zero, List.set_cons_succ])) | (apply ord_skip rfl (by rfl) (by rfl) (fun _ => hDr); (try simp only [Act.put, List.setIfInBounds_toArray, List.set_cons_zero, List.set_cons_succ])))
        refine ord_do rfl (by rfl) (by rfl) (fun K hK => ?_)
        go_simp
        refine (l01In_v false _ _ _ _ (inB_f hv)).mono ?_
        rintro e wd' ⟨rfl, dm, hwd⟩
        replace hDr := hDr.step hwd
        clear hwd
        refine hK.out _ _ (fun _ => hDr) ?_
        (try simp only [Act.put, List.setIfInBounds_toArray, List.set_cons_zero, List.set_cons_succ])
        clear hK K
        repeat (first | (apply ord_tk rfl (by rfl) (by rfl) (by rfl); (focus (rintro w ⟨dm, rfl⟩; go_simp; (try with_reducible rfl))); (try simp only [Act.put, List.setIfInBounds_toArray, List.set_cons_zero, List.set_cons_succ])) | (apply ord_skip rfl (by rfl) (by rfl) (fun _ => hDr); (try simp only [Act.put, List.setIfInBounds_toArray, List.set_cons_zero, List.set_cons_succ])))
        refine ord_nil ?_
        go_wp2
        go_ret
        exact ⟨by rw [hF.out]; rfl, hDr.below hbW⟩
    · obtain rfl : k = vs.length := by omega
      have hok : OkM os D vs := ⟨hG, hd1.1, hd1.2, hL.out, fun v hv => by
        obtain ⟨j, hj, rfl⟩ := List.getElem_of_mem hv
        have := hP.out j hj
        unfold gi at this
        rw [List.getD_eq_getElem?_getD, List.getElem?_eq_getElem hj] at this
        exact this⟩
      have hbG : b < W.heap.size := by omega
      have hBe : Below W.heap.size W wr := hDr.all
      clear hDr
      go_wp2
      go_loopw [5] (fun i wr => ∃ k : Nat, k ≤ vs.length ∧ i = .int .i64 k ∧ (∀ j : Nat, j < k → Vl vs (Ng os j) = Vl vs j) ∧ Below W.heap.size W wr) (fun i _ => vs.length - (intOf i).toNat)
      case atStart => exact ⟨0, by omega, rfl, fun j hj => absurd hj (by omega), hBe⟩
      case round =>
        clear hBe
        obtain ⟨k, hk, rfl, hpre, hBe⟩ := hrel
        have hP := hide hpre
        clear hpre
        by_cases hlt : k < vs.length
        · obtain ⟨z, ez⟩ : ∃ z : Nat, Ng os k = (z : Int) := ⟨(Ng os k).toNat, by have := Ng_rng hG k; have := hL.out; omega⟩
          have hzl : z < vs.length := by have := Ng_rng hG k; have := hL.out; omega
          have c1 := (hbW.cell (p := ⟨b, off + k, none⟩) hb).trans (hc k hlt)
          have c2 := (hbW.cell (p := ⟨b, off + z, none⟩) hb).trans (hc z hzl)
          have hV : Vl vs (Ng os k) = gi vs z ∧ Vl vs k = gi vs k := by rw [ez]; exact ⟨rfl, rfl⟩
          obtain ⟨vk, ek⟩ : ∃ v, gi vs k = v := ⟨_, rfl⟩
          obtain ⟨vz, ez'⟩ : ∃ v, gi vs z = v := ⟨_, rfl⟩
          rw [ek] at c1 hV
          rw [ez'] at c2 hV
          have hVV := hide hV
          have hEZ := hide ez
          have hzp : (z : Int) < prodL os := by have := hL.out; omega
          have hkp : (k : Int) < prodL os := by have := hL.out; omega
          clear ek ez' hV
          by_cases hv : vk = vz
          · subst hv
            go_wp2
            refine wp_region_be [0, 1, 2, 3, 4, 5, 6, 7, 8, 9, 10, 11, 12, 13] 14 W.heap.size W (by kernel_rfl) (by kernel_rfl) (by kernel_rfl) (fun _ _ _ _ _ h => h) hBe (fun wd hBe => ?_)
            repeat (first | (apply ord_tk rfl (by rfl) (by rfl) (by rfl); (focus (intro wx hSw; have r0 := (hSw.cell (p := ⟨w.heap.size, 0, none⟩) hszW).trans q0; have r2 := (hSw.cell (p := ⟨w.heap.size, 2, none⟩) hszW).trans q2; have r3 := (hSw.cell (p := ⟨b, off + k, none⟩) hbG).trans c1; have r4 := (hSw.cell (p := ⟨b, off + z, none⟩) hbG).trans c2; go_simp; (try with_reducible rfl))); (try simp only [Act.put, List.setIfInBounds_toArray, List.set_cons_zero, List.set_cons_succ])) | (apply ord_skip rfl (by rfl) (by rfl) (fun _ => hBe); (try simp only [Act.put, List.setIfInBounds_toArray, List.set_cons_zero, List.set_cons_succ])))
            refine ord_do rfl (by rfl) (by rfl) (fun K hK => ?_)
            go_simp
            refine (l10Negative_any _ _ _ _ _ _ _ (hs.below (hBe.mono (Nat.le_of_lt hszW))) (by have := hBe.size; omega) hG (by omega) (by omega)).mono ?_
            rintro e wd' ⟨rfl, hwd⟩
            replace hBe := hBe.trans (hwd.mono hBe.size)
            clear hwd
            refine hK.out _ _ (fun _ => hBe) ?_
            (try simp only [Act.put, List.setIfInBounds_toArray, List.set_cons_zero, List.set_cons_succ])
            clear hK K
            rw [ez]
            repeat (first | (apply ord_tk rfl (by rfl) (by rfl) (by rfl); (focus (intro wx hSw; have r0 := (hSw.cell (p := ⟨w.heap.size, 0, none⟩) hszW).trans q0; have r2 := (hSw.cell (p := ⟨w.heap.size, 2, none⟩) hszW).trans q2; have r3 := (hSw.cell (p := ⟨b, off + k, none⟩) hbG).trans c1; have r4 := (hSw.cell (p := ⟨b, off + z, none⟩) hbG).trans c2; go_simp; (try with_reducible rfl))); (try simp only [Act.put, List.setIfInBounds_toArray, List.set_cons_zero, List.set_cons_succ])) | (apply ord_skip rfl (by rfl) (by rfl) (fun _ => hBe); (try simp only [Act.put, List.setIfInBounds_toArray, List.set_cons_zero, List.set_cons_succ])))
            refine ord_nil ?_
            go_wp2
            go_roundw
            case rel =>
              exact ⟨k + 1, by omega, by go_num, fun j hj => by rcases Nat.lt_succ_iff_lt_or_eq.1 hj with h | rfl; exact hP.out j h; rw [hVV.out.1, hVV.out.2], hBe⟩
            case measure => simp [intOf] <;> omega
          · have hF := hide (isM_f (os := os) (vs := vs) (D := D) fun hm => hv (by have := hm.neg k hkp; rw [hVV.out.1, hVV.out.2] at this; exact this.symm))
            have hvb : (vk != vz) = true := by simpa using hv
            go_wp2
            refine wp_region_be [0, 1, 2, 3, 4, 5, 6, 7, 8, 9, 10, 11, 12, 13] 14 W.heap.size W (by kernel_rfl) (by kernel_rfl) (by kernel_rfl) (fun _ _ _ _ _ h => h) hBe (fun wd hBe => ?_)
            repeat (first | (apply ord_tk rfl (by rfl) (by rfl) (by rfl); (focus (intro wx hSw; have r0 := (hSw.cell (p := ⟨w.heap.size, 0, none⟩) hszW).trans q0; have r2 := (hSw.cell (p := ⟨w.heap.size, 2, none⟩) hszW).trans q2; have r3 := (hSw.cell (p := ⟨b, off + k, none⟩) hbG).trans c1; have r4 := (hSw.cell (p := ⟨b, off + z, none⟩) hbG).trans c2; go_simp; (try with_reducible rfl))); (try simp only [Act.put, List.setIfInBounds_toArray, List.set_cons_zero, List.set_cons_succ])) | (apply ord_skip rfl (by rfl) (by rfl) (fun _ => hBe); (try simp only [Act.put, List.setIfInBounds_toArray, List.set_cons_zero, List.set_cons_succ])))
            refine ord_do rfl (by rfl) (by rfl) (fun K hK => ?_)
            go_simp
            refine (l10Negative_any _ _ _ _ _ _ _ (hs.below (hBe.mono (Nat.le_of_lt hszW))) (by have := hBe.size; omega) hG (by omega) (by omega)).mono ?_
            rintro e wd' ⟨rfl, hwd⟩
            replace hBe := hBe.trans (hwd.mono hBe.size)
            clear hwd
            refine hK.out _ _ (fun _ => hBe) ?_
            (try simp only [Act.put, List.setIfInBounds_toArray, List.set_cons_zero, List.set_cons_succ])
            clear hK K
            rw [ez]
            repeat (first | (apply ord_tk rfl (by rfl) (by rfl) (by rfl); (focus (intro wx hSw; have r0 := (hSw.cell (p := ⟨w.heap.size, 0, none⟩) hszW).trans q0; have r2 := (hSw.cell (p := ⟨w.heap.size, 2, none⟩) hszW).trans q2; have r3 := (hSw.cell (p := ⟨b, off + k, none⟩) hbG).trans c1; have r4 := (hSw.cell (p := ⟨b, off + z, none⟩) hbG).trans c2; go_simp; (try with_reducible rfl))); (try simp only [Act.put, List.setIfInBounds_toArray, List.set_cons_zero, List.set_cons_succ])) | (apply ord_skip rfl (by rfl) (by rfl) (fun _ => hBe); (try simp only [Act.put, List.setIfInBounds_toArray, List.set_cons_zero, List.set_cons_succ])))
            refine ord_nil ?_
            go_wp2
            go_ret
            exact ⟨by rw [hF.out]; rfl, hbW.trans (hBe.mono (Nat.le_of_lt hszW))⟩
        · obtain rfl : k = vs.length := by omega
          have hsl : ∀ wd, Below W.heap.size W wd → Sl wd wd.heap.size A n c os := fun wd h => (hs.below (h.mono (Nat.le_of_lt hszW))).more (by have := h.size; omega)
          have hsv : ∀ wd, Below W.heap.size W wd → Sl wd wd.heap.size (some ⟨b, off, none⟩) vs.length c' vs := fun wd h => (hs'.below (h.mono (Nat.le_of_lt hszW))).more (by have := h.size; omega)
          go_wp2
          go_loopw [6] (fun i wr => ∃ k : Nat, k ≤ vs.length ∧ i = .int .i64 k ∧ (∀ x y z : Nat, x < k → y < vs.length → z < vs.length → Pr os D vs (Ar os x y) z = (Pr os D vs x z + Pr os D vs y z) % D) ∧ Below W.heap.size W wr) (fun i _ => vs.length - (intOf i).toNat)
          case atStart => exact ⟨0, by omega, rfl, fun x y z hx => absurd hx (by omega), hBe⟩
          case round =>
            clear hBe
            obtain ⟨x, hx, rfl, hpre, hBe⟩ := hrel
            have hX := hide hpre
            clear hpre
            by_cases hlx : x < vs.length
            · go_wp2
              go_loopw [7] (fun i wr => ∃ k : Nat, k ≤ vs.length ∧ i = .int .i64 k ∧ (∀ y z : Nat, y < k → z < vs.length → Pr os D vs (Ar os x y) z = (Pr os D vs x z + Pr os D vs y z) % D) ∧ Below W.heap.size W wr) (fun i _ => vs.length - (intOf i).toNat)
              case atStart => exact ⟨0, by omega, rfl, fun y z hy => absurd hy (by omega), hBe⟩
              case round =>
                clear hBe
                obtain ⟨y, hy, rfl, hpre, hBe⟩ := hrel
                have hY := hide hpre
                clear hpre
                by_cases hly : y < vs.length
                · obtain ⟨s, es⟩ : ∃ s : Nat, Ar os x y = (s : Int) := ⟨(Ar os x y).toNat, by have := Ar_rng hG x y; omega⟩
                  have hsl16 : (s : Int) < prodL os := by have := Ar_rng hG x y; omega
                  go_wp2
                  go_loopw [8] (fun i wr => ∃ k : Nat, k ≤ vs.length ∧ i = .int .i64 k ∧ (∀ z : Nat, z < k → Pr os D vs (Ar os x y) z = (Pr os D vs x z + Pr os D vs y z) % D) ∧ Below W.heap.size W wr) (fun i _ => vs.length - (intOf i).toNat)
                  case atStart => exact ⟨0, by omega, rfl, fun z hz => absurd hz (by omega), hBe⟩
                  case round =>
                    clear hBe
                    obtain ⟨z, hz', rfl, hpre, hBe⟩ := hrel
                    have hZ := hide hpre
                    clear hpre
                    by_cases hlz : z < vs.length
                    · have hLL := hL.out
                      obtain ⟨p1, ep1⟩ : ∃ p, Pr os D vs x z = p := ⟨_, rfl⟩
                      obtain ⟨p2, ep2⟩ : ∃ p, Pr os D vs y z = p := ⟨_, rfl⟩
                      obtain ⟨p3, ep3⟩ : ∃ p, Pr os D vs s z = p := ⟨_, rfl⟩
                      have b1 := Pr_rng hok x z
                      have b2 := Pr_rng hok y z
                      have b3 := Pr_rng hok s z
                      rw [ep1] at b1
                      rw [ep2] at b2
                      rw [ep3] at b3
                      have u1 : IntKind.i64.wrap (p1 + p2) = p1 + p2 := wrap_in (by omega) (by omega)
                      have u2 : IntKind.i64.wrap (p1 + p2 - p3) = p1 + p2 - p3 := wrap_in (by omega) (by omega)
                      have u3 : ¬ D = 0 := by omega
                      have hx16 : (x : Int) < prodL os := by omega
                      have hy16 : (y : Int) < prodL os := by omega
                      have hz16 : (z : Int) < prodL os := by omega
                      clear hLL
                      by_cases hv : p3 = (p1 + p2) % D
                      · have hvb : (((p1 + p2 - p3).tmod D) != 0) = false := by simpa using (bil_iff hok.d1 b3.1 b3.2).2 hv
                        have hv' := hide hv
                        clear hv
                        go_wp2
                        refine wp_region_be [0, 1, 2, 4, 5, 6, 9, 10, 11, 12, 13, 15, 18, 19, 3, 7, 8, 14, 16, 17, 20, 21] 22 W.heap.size W (by kernel_rfl) (by kernel_rfl) (by kernel_rfl) (fun _ _ _ _ _ h => h) hBe (fun wd hBe => ?_)
                        repeat (first | (apply ord_tk rfl (by rfl) (by rfl) (by rfl); (focus (intro wx hSw; have r0 := (hSw.cell (p := ⟨w.heap.size, 0, none⟩) hszW).trans q0; have r1 := (hSw.cell (p := ⟨w.heap.size, 1, none⟩) hszW).trans q1; have r2 := (hSw.cell (p := ⟨w.heap.size, 2, none⟩) hszW).trans q2; go_simp; (try with_reducible rfl))); (try simp only [Act.put, List.setIfInBounds_toArray, List.set_cons_zero, List.set_cons_succ])) | (apply ord_skip rfl (by rfl) (by rfl) (fun _ => hBe); (try simp only [Act.put, List.setIfInBounds_toArray, List.set_cons_zero, List.set_cons_succ])))
                        refine ord_do rfl (by rfl) (by rfl) (fun K hK => ?_)
                        go_simp
                        refine (l10Pair_any _ _ _ _ _ _ _ _ _ _ _ _ (hsl _ hBe) (hsv _ hBe) hok (by omega) (by omega)).mono ?_
                        rintro e wd' ⟨rfl, hwd⟩
                        replace hBe := hBe.trans (hwd.mono hBe.size)
                        clear hwd
                        refine hK.out _ _ (fun _ => hBe) ?_
                        (try simp only [Act.put, List.setIfInBounds_toArray, List.set_cons_zero, List.set_cons_succ])
                        clear hK K
                        rw [ep1]
                        repeat (first | (apply ord_tk rfl (by rfl) (by rfl) (by rfl); (focus (intro wx hSw; have r0 := (hSw.cell (p := ⟨w.heap.size, 0, none⟩) hszW).trans q0; have r1 := (hSw.cell (p := ⟨w.heap.size, 1, none⟩) hszW).trans q1; have r2 := (hSw.cell (p := ⟨w.heap.size, 2, none⟩) hszW).trans q2; go_simp; (try with_reducible rfl))); (try simp only [Act.put, List.setIfInBounds_toArray, List.set_cons_zero, List.set_cons_succ])) | (apply ord_skip rfl (by rfl) (by rfl) (fun _ => hBe); (try simp only [Act.put, List.setIfInBounds_toArray, List.set_cons_zero, List.set_cons_succ])))
                        refine ord_do rfl (by rfl) (by rfl) (fun K hK => ?_)
                        go_simp
                        refine (l10Pair_any _ _ _ _ _ _ _ _ _ _ _ _ (hsl _ hBe) (hsv _ hBe) hok (by omega) (by omega)).mono ?_
                        rintro e wd' ⟨rfl, hwd⟩
                        replace hBe := hBe.trans (hwd.mono hBe.size)
                        clear hwd
                        refine hK.out _ _ (fun _ => hBe) ?_
                        (try simp only [Act.put, List.setIfInBounds_toArray, List.set_cons_zero, List.set_cons_succ])
                        clear hK K
                        rw [ep2]
                        repeat (first | (apply ord_tk rfl (by rfl) (by rfl) (by rfl); (focus (intro wx hSw; have r0 := (hSw.cell (p := ⟨w.heap.size, 0, none⟩) hszW).trans q0; have r1 := (hSw.cell (p := ⟨w.heap.size, 1, none⟩) hszW).trans q1; have r2 := (hSw.cell (p := ⟨w.heap.size, 2, none⟩) hszW).trans q2; go_simp; (try with_reducible rfl))); (try simp only [Act.put, List.setIfInBounds_toArray, List.set_cons_zero, List.set_cons_succ])) | (apply ord_skip rfl (by rfl) (by rfl) (fun _ => hBe); (try simp only [Act.put, List.setIfInBounds_toArray, List.set_cons_zero, List.set_cons_succ])))
                        refine ord_do rfl (by rfl) (by rfl) (fun K hK => ?_)
                        go_simp
                        refine (((l10Add_any _ _ _ _ _ _ _ _ (hsl _ hBe) hG (by omega) (by omega) (by omega) (by omega)).mono fun _ _ h => Qt.re h)).mono ?_
                        rintro e wd' ⟨rfl, hwd⟩
                        replace hBe := hBe.trans (hwd.mono hBe.size)
                        clear hwd
                        refine hK.out _ _ (fun _ => hBe) ?_
                        (try simp only [Act.put, List.setIfInBounds_toArray, List.set_cons_zero, List.set_cons_succ])
                        clear hK K
                        rw [es]
                        repeat (first | (apply ord_tk rfl (by rfl) (by rfl) (by rfl); (focus (intro wx hSw; have r0 := (hSw.cell (p := ⟨w.heap.size, 0, none⟩) hszW).trans q0; have r1 := (hSw.cell (p := ⟨w.heap.size, 1, none⟩) hszW).trans q1; have r2 := (hSw.cell (p := ⟨w.heap.size, 2, none⟩) hszW).trans q2; go_simp; (try with_reducible rfl))); (try simp only [Act.put, List.setIfInBounds_toArray, List.set_cons_zero, List.set_cons_succ])) | (apply ord_skip rfl (by rfl) (by rfl) (fun _ => hBe); (try simp only [Act.put, List.setIfInBounds_toArray, List.set_cons_zero, List.set_cons_succ])))
                        refine ord_do rfl (by rfl) (by rfl) (fun K hK => ?_)
                        go_simp
                        refine (l10Pair_any _ _ _ _ _ _ _ _ _ _ _ _ (hsl _ hBe) (hsv _ hBe) hok (by omega) (by omega)).mono ?_
                        rintro e wd' ⟨rfl, hwd⟩
                        replace hBe := hBe.trans (hwd.mono hBe.size)
                        clear hwd
                        refine hK.out _ _ (fun _ => hBe) ?_
                        (try simp only [Act.put, List.setIfInBounds_toArray, List.set_cons_zero, List.set_cons_succ])
                        clear hK K
                        rw [ep3]
                        repeat (first | (apply ord_tk rfl (by rfl) (by rfl) (by rfl); (focus (intro wx hSw; have r0 := (hSw.cell (p := ⟨w.heap.size, 0, none⟩) hszW).trans q0; have r1 := (hSw.cell (p := ⟨w.heap.size, 1, none⟩) hszW).trans q1; have r2 := (hSw.cell (p := ⟨w.heap.size, 2, none⟩) hszW).trans q2; go_simp; (try with_reducible rfl))); (try simp only [Act.put, List.setIfInBounds_toArray, List.set_cons_zero, List.set_cons_succ])) | (apply ord_skip rfl (by rfl) (by rfl) (fun _ => hBe); (try simp only [Act.put, List.setIfInBounds_toArray, List.set_cons_zero, List.set_cons_succ])))
                        refine ord_nil ?_
                        go_wp2
                        go_roundw
                        case rel => exact ⟨z + 1, by omega, by go_num, fun j hj => by rcases Nat.lt_succ_iff_lt_or_eq.1 hj with h | rfl; exact hZ.out j h; rw [es, ep1, ep2, ep3]; exact hv'.out, hBe⟩
                        case measure => simp [intOf] <;> omega
                      · have hvb : (((p1 + p2 - p3).tmod D) != 0) = true := by simpa using fun hh => hv ((bil_iff hok.d1 b3.1 b3.2).1 hh)
                        have hF := hide (isM_f (os := os) (vs := vs) (D := D) fun hm => hv (by have := hm.bil x y z hx16 hy16 hz16; rw [es, ep1, ep2, ep3] at this; exact this))
                        clear hv
                        go_wp2
                        refine wp_region_be [0, 1, 2, 4, 5, 6, 9, 10, 11, 12, 13, 15, 18, 19, 3, 7, 8, 14, 16, 17, 20, 21] 22 W.heap.size W (by kernel_rfl) (by kernel_rfl) (by kernel_rfl) (fun _ _ _ _ _ h => h) hBe (fun wd hBe => ?_)
                        repeat (first | (apply ord_tk rfl (by rfl) (by rfl) (by rfl); (focus (intro wx hSw; have r0 := (hSw.cell (p := ⟨w.heap.size, 0, none⟩) hszW).trans q0; have r1 := (hSw.cell (p := ⟨w.heap.size, 1, none⟩) hszW).trans q1; have r2 := (hSw.cell (p := ⟨w.heap.size, 2, none⟩) hszW).trans q2; go_simp; (try with_reducible rfl))); (try simp only [Act.put, List.setIfInBounds_toArray, List.set_cons_zero, List.set_cons_succ])) | (apply ord_skip rfl (by rfl) (by rfl) (fun _ => hBe); (try simp only [Act.put, List.setIfInBounds_toArray, List.set_cons_zero, List.set_cons_succ])))
                        refine ord_do rfl (by rfl) (by rfl) (fun K hK => ?_)
                        go_simp
                        refine (l10Pair_any _ _ _ _ _ _ _ _ _ _ _ _ (hsl _ hBe) (hsv _ hBe) hok (by omega) (by omega)).mono ?_
                        rintro e wd' ⟨rfl, hwd⟩
                        replace hBe := hBe.trans (hwd.mono hBe.size)
                        clear hwd
                        refine hK.out _ _ (fun _ => hBe) ?_
                        (try simp only [Act.put, List.setIfInBounds_toArray, List.set_cons_zero, List.set_cons_succ])
                        clear hK K
                        rw [ep1]
                        repeat (first | (apply ord_tk rfl (by rfl) (by rfl) (by rfl); (focus (intro wx hSw; have r0 := (hSw.cell (p := ⟨w.heap.size, 0, none⟩) hszW).trans q0; have r1 := (hSw.cell (p := ⟨w.heap.size, 1, none⟩) hszW).trans q1; have r2 := (hSw.cell (p := ⟨w.heap.size, 2, none⟩) hszW).trans q2; go_simp; (try with_reducible rfl))); (try simp only [Act.put, List.setIfInBounds_toArray, List.set_cons_zero, List.set_cons_succ])) | (apply ord_skip rfl (by rfl) (by rfl) (fun _ => hBe); (try simp only [Act.put, List.setIfInBounds_toArray, List.set_cons_zero, List.set_cons_succ])))
                        refine ord_do rfl (by rfl) (by rfl) (fun K hK => ?_)
                        go_simp
                        refine (l10Pair_any _ _ _ _ _ _ _ _ _ _ _ _ (hsl _ hBe) (hsv _ hBe) hok (by omega) (by omega)).mono ?_
                        rintro e wd' ⟨rfl, hwd⟩
                        replace hBe := hBe.trans (hwd.mono hBe.size)
                        clear hwd
                        refine hK.out _ _ (fun _ => hBe) ?_
                        (try simp only [Act.put, List.setIfInBounds_toArray, List.set_cons_zero, List.set_cons_succ])
                        clear hK K
                        rw [ep2]
                        repeat (first | (apply ord_tk rfl (by rfl) (by rfl) (by rfl); (focus (intro wx hSw; have r0 := (hSw.cell (p := ⟨w.heap.size, 0, none⟩) hszW).trans q0; have r1 := (hSw.cell (p := ⟨w.heap.size, 1, none⟩) hszW).trans q1; have r2 := (hSw.cell (p := ⟨w.heap.size, 2, none⟩) hszW).trans q2; go_simp; (try with_reducible rfl))); (try simp only [Act.put, List.setIfInBounds_toArray, List.set_cons_zero, List.set_cons_succ])) | (apply ord_skip rfl (by rfl) (by rfl) (fun _ => hBe); (try simp only [Act.put, List.setIfInBounds_toArray, List.set_cons_zero, List.set_cons_succ])))
                        refine ord_do rfl (by rfl) (by rfl) (fun K hK => ?_)
                        go_simp
                        refine (((l10Add_any _ _ _ _ _ _ _ _ (hsl _ hBe) hG (by omega) (by omega) (by omega) (by omega)).mono fun _ _ h => Qt.re h)).mono ?_
                        rintro e wd' ⟨rfl, hwd⟩
                        replace hBe := hBe.trans (hwd.mono hBe.size)
                        clear hwd
                        refine hK.out _ _ (fun _ => hBe) ?_
                        (try simp only [Act.put, List.setIfInBounds_toArray, List.set_cons_zero, List.set_cons_succ])
                        clear hK K
                        rw [es]
                        repeat (first | (apply ord_tk rfl (by rfl) (by rfl) (by rfl); (focus (intro wx hSw; have r0 := (hSw.cell (p := ⟨w.heap.size, 0, none⟩) hszW).trans q0; have r1 := (hSw.cell (p := ⟨w.heap.size, 1, none⟩) hszW).trans q1; have r2 := (hSw.cell (p := ⟨w.heap.size, 2, none⟩) hszW).trans q2; go_simp; (try with_reducible rfl))); (try simp only [Act.put, List.setIfInBounds_toArray, List.set_cons_zero, List.set_cons_succ])) | (apply ord_skip rfl (by rfl) (by rfl) (fun _ => hBe); (try simp only [Act.put, List.setIfInBounds_toArray, List.set_cons_zero, List.set_cons_succ])))
                        refine ord_do rfl (by rfl) (by rfl) (fun K hK => ?_)
                        go_simp
                        refine (l10Pair_any _ _ _ _ _ _ _ _ _ _ _ _ (hsl _ hBe) (hsv _ hBe) hok (by omega) (by omega)).mono ?_
                        rintro e wd' ⟨rfl, hwd⟩
                        replace hBe := hBe.trans (hwd.mono hBe.size)
                        clear hwd
                        refine hK.out _ _ (fun _ => hBe) ?_
                        (try simp only [Act.put, List.setIfInBounds_toArray, List.set_cons_zero, List.set_cons_succ])
                        clear hK K
                        rw [ep3]
                        repeat (first | (apply ord_tk rfl (by rfl) (by rfl) (by rfl); (focus (intro wx hSw; have r0 := (hSw.cell (p := ⟨w.heap.size, 0, none⟩) hszW).trans q0; have r1 := (hSw.cell (p := ⟨w.heap.size, 1, none⟩) hszW).trans q1; have r2 := (hSw.cell (p := ⟨w.heap.size, 2, none⟩) hszW).trans q2; go_simp; (try with_reducible rfl))); (try simp only [Act.put, List.setIfInBounds_toArray, List.set_cons_zero, List.set_cons_succ])) | (apply ord_skip rfl (by rfl) (by rfl) (fun _ => hBe); (try simp only [Act.put, List.setIfInBounds_toArray, List.set_cons_zero, List.set_cons_succ])))
                        refine ord_nil ?_
                        go_wp2
                        go_ret
                        exact ⟨by rw [hF.out]; rfl, hbW.trans (hBe.mono (Nat.le_of_lt hszW))⟩
                    · obtain rfl : z = vs.length := by omega
                      go_wp2
                      go_roundw
                      case rel => exact ⟨y + 1, by omega, by go_num, fun j z hj hz => by rcases Nat.lt_succ_iff_lt_or_eq.1 hj with h | rfl; exact hY.out j z h hz; exact hZ.out z hz, hBe⟩
                      case measure => simp [intOf] <;> omega
                · obtain rfl : y = vs.length := by omega
                  go_wp2
                  go_roundw
                  case rel => exact ⟨x + 1, by omega, by go_num, fun j y z hj hy hz => by rcases Nat.lt_succ_iff_lt_or_eq.1 hj with h | rfl; exact hX.out j y z h hy hz; exact hY.out y z hy hz, hBe⟩
                  case measure => simp [intOf] <;> omega
            · obtain rfl : x = vs.length := by omega
              have hT := hide (isM_t (os := os) (vs := vs) (D := D) ⟨hok, ho, hz, fun x hx => hP.out x (by have := hL.out; omega), fun x y z hx hy hz => hX.out x y z (by have := hL.out; omega) (by have := hL.out; omega) (by have := hL.out; omega)⟩)
              go_wp2
              go_ret
              exact ⟨by rw [hT.out]; rfl, hbW.trans (hBe.mono (Nat.le_of_lt hszW))⟩

theorem l10Is_any (w : World) (A : Option Addr) (n c : Nat) (os : List Int) (D : Int) (A' : Option Addr) (n' c' : Nat) (vs : List Int)
    (h : Sl w w.heap.size A n c os) (h' : Sl w w.heap.size A' n' c' vs) (hn : n ≤ 1073741824) (hn' : n' ≤ 1073741824) :
    Calls Tryz.prog 27 #[.agg #[.slice A n c, .int .i64 D, .slice A' n' c']] w (Re w (.bool (isM os D vs))) := by
  by_cases hno : okG os = true ∧ ordB D = true ∧ (vs.length : Int) = prodL os ∧ gi vs 0 = 0
  · obtain ⟨hg, ho, hl, hz⟩ := hno
    obtain rfl := h'.len
    have := (okG_iff.1 hg).ge
    obtain ⟨b, off, rfl, hb, hc⟩ := h'.at_ (by omega)
    exact l10Is_main w A n c os D b off c' vs h h' hn hn' hg ho hl hz hb hc
  · exact l10Is_early w A n c os D A' n' c' vs h h' hn hn' hno
end Go.Proofs.YtonehmjoolflfaaGreatDoor
