/- The walks of allWithin, isGroup. -/
import Derived.Test.YtmnljlefjafcdaaS2
import Derived.Test.YtmnljlefjafcdaaOd
import Derived.WalkLawsBesides
namespace Go.Proofs.Ytmnljlefjafcdaa
open Go Go.RowKit Grp
set_option linter.unusedSimpArgs false
set_option linter.unusedVariables false

def allIn (lo hi : Int) (xs : List Int) : Bool := xs.all fun x => inB x lo hi
theorem allIn_f {lo hi : Int} {xs : List Int} {k : Nat} (hk : k < xs.length) (h : inB (gi xs k) lo hi = false) : allIn lo hi xs = false := by
  refine Bool.eq_false_iff.2 fun ha => ?_
  have := List.all_eq_true.1 ha _ (gi_mem hk)
  rw [h] at this; cases this
theorem allIn_t {lo hi : Int} {xs : List Int} (h : ∀ k, k < xs.length → inB (gi xs k) lo hi = true) : allIn lo hi xs = true := by
  refine List.all_eq_true.2 fun x hx => ?_
  obtain ⟨j, hj, rfl⟩ := List.getElem_of_mem hx
  have := h j hj
  unfold gi at this
  rw [List.getD_eq_getElem?_getD, List.getElem?_eq_getElem hj] at this
  exact this

theorem allWithin1_v (b : Bool) (w : World) (n lo hi : Int) (p q : Nat) (h1 : w.cell? ⟨p, 0, none⟩ = some (.int .i64 lo)) (h2 : w.cell? ⟨q, 0, none⟩ = some (.int .i64 hi)) (hb : inB n lo hi = b) :
    Calls Try.prog 105 #[.int .i64 n, .pointer (some ⟨p, 0, none⟩), .pointer (some ⟨q, 0, none⟩)] w (Qt w (.bool (!b))) := by
  go_enter Try.func105, Try.ntmps105
  go_wp2_with fail
  refine (within_v b _ _ _ _ hb).mono ?_
  rintro e w' ⟨rfl, m, rfl⟩
  go_wp2
  go_ret
  exact Qt.d1 rfl

theorem indexFunc_all (w : World) (B : Nat) (A : Option Addr) (n c : Nat) (xs : List Int) (lo hi : Int) (p q : Nat) (h : Sl w B A n c xs) (hn : n ≤ 1048576) (h1 : w.cell? ⟨p, 0, none⟩ = some (.int .i64 lo)) (h2 : w.cell? ⟨q, 0, none⟩ = some (.int .i64 hi)) :
    Calls Try.prog 127 #[.slice A n c, .func (.func 105) #[] #[.pointer (some ⟨p, 0, none⟩), .pointer (some ⟨q, 0, none⟩)]] w (fun e w' => ∃ r : Int, e = .returned (.int .i64 r) ∧ decide (0 ≤ r) = !(allIn lo hi xs) ∧ Dr w w') := by
  obtain rfl := h.len
  go_enter Try.func127, Try.ntmps127
  go_wp2_with fail
  go_loopw [8] (fun i wr => ∃ k : Nat, k ≤ xs.length ∧ i = .int .i64 k ∧ (∀ j, j < k → inB (gi xs j) lo hi = true) ∧ Dr w wr) (fun i _ => xs.length - (intOf i).toNat)
  case atStart => exact ⟨0, by omega, rfl, fun j hj => absurd hj (by omega), Dr.refl _⟩
  case round =>
    obtain ⟨k, hk, rfl, hpre, hDr⟩ := hrel
    obtain ⟨dm, rfl⟩ := hDr
    have hP := hide hpre
    clear hpre
    by_cases hlt : k < xs.length
    · obtain ⟨b, off, rfl, hb, hc⟩ := h.at_ (by omega)
      have c1 := hc k hlt
      clear hc
      cases hv : inB (gi xs k) lo hi with
      | true =>
        have hv' := hide hv
        clear hv
        go_wp2_with fail
        refine (allWithin1_v true (w.drewN dm) _ _ _ _ _ (by exact h1) (by exact h2) hv'.out).mono ?_
        rintro e w' ⟨rfl, m, rfl⟩
        go_wp2_with fail
        go_roundw
        case rel => exact ⟨k + 1, by omega, by go_num, fun j hj => by rcases Nat.lt_succ_iff_lt_or_eq.1 hj with h | rfl; exact hP.out j h; exact hv'.out, _, rfl⟩
        case measure => simp [intOf] <;> omega
      | false =>
        have hF := hide (allIn_f hlt hv)
        have hv' := hide hv
        clear hv
        go_wp2_with fail
        refine (allWithin1_v false (w.drewN dm) _ _ _ _ _ (by exact h1) (by exact h2) hv'.out).mono ?_
        rintro e w' ⟨rfl, m, rfl⟩
        go_wp2_with fail
        go_ret
        exact ⟨k, rfl, by rw [hF.out]; simp, _, rfl⟩
    · obtain rfl : k = xs.length := by omega
      have hT := hide (allIn_t fun j hj => hP.out j hj)
      go_wp2
      go_ret
      exact ⟨-1, rfl, by rw [hT.out]; rfl, _, rfl⟩
theorem allWithin_any (w : World) (B : Nat) (A : Option Addr) (n c : Nat) (xs : List Int) (lo hi : Int) (h : Sl w B A n c xs) (hB : B ≤ w.heap.size) (hn : n ≤ 1048576) :
    Calls Try.prog 65 #[.slice A n c, .int .i64 lo, .int .i64 hi] w (Re w (.bool (allIn lo hi xs))) := by
  have hcf : ∀ W : World, ∀ p q : Nat, Sl W B A n c xs → W.cell? ⟨p, 0, none⟩ = some (.int .i64 lo) → W.cell? ⟨q, 0, none⟩ = some (.int .i64 hi) →
      Calls Try.prog 104 #[.slice A n c, .func (.func 105) #[] #[.pointer (some ⟨p, 0, none⟩), .pointer (some ⟨q, 0, none⟩)]] W (Qt W (.bool (!(allIn lo hi xs)))) := by
    intro W p q hs g1 g2
    go_enter Try.func104, Try.ntmps104
    go_wp2_with fail
    refine (indexFunc_all _ _ _ _ _ _ _ _ _ _ (by exact hs) hn (by exact g1) (by exact g2)).mono ?_
    rintro e w' ⟨r, rfl, hr, dm, rfl⟩
    have hR := hide hr
    clear hr
    go_wp2
    go_ret
    exact Qt.mk' _ rfl (bool_eq hR.out)
  go_enter Try.func65, Try.ntmps65
  go_wp2_with fail
  refine (hcf _ _ _ (h.below (by repeat (first | assumption | exact Below.refl _ _ | apply below_drewN | apply Below.drew | apply Below.alloc | apply Below.setCell | omega | (focus (simp; done)) | (focus (simp; omega))))) (by go_simp) (by go_simp)).mono ?_
  rintro e w' ⟨rfl, hDr⟩
  have hDr : Dr _ w' := hDr
  go_wp2
  go_ret
  exact ⟨by simp, hDr.below (by repeat (first | assumption | exact Below.refl _ _ | apply below_drewN | apply Below.drew | apply Below.alloc | apply Below.setCell | omega | (focus (simp; done)) | (focus (simp; omega))))⟩

theorem gsL_min (r : List Int) : ∀ s : Int, 1 ≤ s → (∀ m ∈ r, 2 ≤ m ∧ m ≤ 16) → gsL (min 17 s) r = min 17 (s * prodL r) := by
  induction r with
  | nil => intro s _ _; simp [gsL, prodL]
  | cons m r ih =>
    intro s hs h
    have hm := h m (by simp)
    have e1 : s * 2 ≤ s * m := Int.mul_le_mul_of_nonneg_left hm.1 (by omega)
    have e2 : min 17 (min 17 s * min m 17) = min 17 (s * m) := by
      rw [show min m 17 = m by omega]
      by_cases h17 : s ≤ 17
      · rw [show min 17 s = s by omega]
      · rw [show min 17 s = 17 by omega]
        omega
    unfold gsL
    rw [if_neg (by omega), e2, ih (s * m) (by omega) (fun k hk => h k (by simp [hk]))]
    simp only [prodL, Int.mul_assoc]
theorem isGroup_eq (xs : List Int) : okG xs = (decide (xs.length ≤ 4) && allIn 2 16 xs && inB (gsz xs) 2 16) := by
  by_cases h4 : xs.length ≤ 4
  · by_cases ha : allIn 2 16 xs = true
    · have hr : ∀ m ∈ xs, 2 ≤ m ∧ m ≤ 16 := fun m hm => by
        have := List.all_eq_true.1 ha m hm
        simpa [inB] using this
      cases xs with
      | nil => decide
      | cons m r =>
        have hg : gsz (m :: r) = min 17 (prodL (m :: r)) := by
          unfold gsz
          rw [if_neg (by simp)]
          have := gsL_min (m :: r) 1 (by omega) hr
          rw [show min (17 : Int) 1 = 1 by omega] at this
          rw [this, Int.one_mul]
        have h2 : 2 ≤ prodL (m :: r) := by
          have h1 : 1 ≤ prodL r := prodL_pos (fun k hk => by have := hr k (by simp [hk]); omega)
          have := (hr m (by simp)).1
          have : 2 * 1 ≤ m * prodL r := Int.mul_le_mul this h1 (by omega) (by omega)
          simp only [prodL]; omega
        rw [ha, hg, okG_end (by simp) h4 hr]
        simp only [h4, decide_true, Bool.true_and, inB]
        exact decide_eq_decide.2 (by omega)
    · rw [show allIn 2 16 xs = false by simpa using ha]
      rw [Bool.and_false, Bool.false_and]
      refine Bool.eq_false_iff.2 fun hb => ha ?_
      have := okG_iff.1 hb
      exact allIn_t fun k hk => inB_t (this.m2 _ (gi_mem hk)) (this.m16 _ (gi_mem hk))
  · rw [okG_len (by omega)]; simp [h4]

theorem isGroup_any (w : World) (B : Nat) (A : Option Addr) (n c : Nat) (xs : List Int) (h : Sl w B A n c xs) (hB : B ≤ w.heap.size) (hn : n ≤ 1048576) :
    Calls Try.prog 63 #[.slice A n c] w (Re w (.bool (okG xs))) := by
  obtain rfl := h.len
  have hE := hide (isGroup_eq xs)
  by_cases h4 : xs.length ≤ 4
  case neg =>
    go_enter Try.func63, Try.ntmps63
    go_wp2_with fail
    go_ret
    exact ⟨by rw [hE.out]; simp [h4], (by repeat (first | assumption | exact Below.refl _ _ | apply below_drewN | apply Below.drew | apply Below.alloc | apply Below.setCell | omega | (focus (simp; done)) | (focus (simp; omega))))⟩
  by_cases ha : allIn 2 16 xs = true
  case neg =>
    have ha' : allIn 2 16 xs = false := by simpa using ha
    have hA := hide ha'
    clear ha ha'
    go_enter Try.func63, Try.ntmps63
    go_wp2_with fail
    refine (allWithin_any _ _ _ _ _ _ _ _ (h.below (by repeat (first | assumption | exact Below.refl _ _ | apply below_drewN | apply Below.drew | apply Below.alloc | apply Below.setCell | omega | (focus (simp; done)) | (focus (simp; omega))))) hB hn).mono ?_
    rintro e w' ⟨rfl, hb⟩
    rw [hA.out]
    go_wp2_with fail
    go_ret
    exact ⟨by rw [hE.out, hA.out]; simp, hb⟩
  have hA := hide ha
  clear ha
  go_enter Try.func63, Try.ntmps63
  go_wp2_with fail
  refine (allWithin_any _ _ _ _ _ _ _ _ (h.below (by repeat (first | assumption | exact Below.refl _ _ | apply below_drewN | apply Below.drew | apply Below.alloc | apply Below.setCell | omega | (focus (simp; done)) | (focus (simp; omega))))) hB hn).mono ?_
  rintro e w' ⟨rfl, hb⟩
  rw [hA.out]
  go_wp2_with fail
  refine (groupSize_any _ _ _ _ _ _ (h.below (hb.mono hB)) hn).mono ?_
  rintro e w' ⟨rfl, m, rfl⟩
  go_wp2_with fail
  refine (within_any _ _ _ _).mono ?_
  rintro e w' ⟨rfl, m, rfl⟩
  go_wp2_with fail
  go_ret
  exact ⟨by rw [hE.out, hA.out]; simp [h4], (by repeat (first | assumption | exact Below.refl _ _ | apply below_drewN | apply Below.drew | apply Below.alloc | apply Below.setCell | omega | (focus (simp; done)) | (focus (simp; omega))))⟩
end Go.Proofs.Ytmnljlefjafcdaa
