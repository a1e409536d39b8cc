
/- The walk of allWithin. -/
import Derived.Test.YtneflhachjlmkaaA1
import Derived.Test.YtneflhachjlmkaaOd
import Derived.WalkLawsBesides
namespace Go.Proofs.Ytneflhachjlmkaa
open Go Go.RowKit
set_option linter.unusedSimpArgs false
set_option linter.unusedVariables false

def allIn (lo hi : Int) (xs : List Int) : Bool := xs.all fun x => inB x lo hi
theorem allIn_f {lo hi : Int} {xs : List Int} {k : Nat} (hk : k < xs.length) (h : inB (gi xs k) lo hi = false) : allIn lo hi xs = false := by
  refine Bool.eq_false_iff.2 fun ha => ?_
  have := List.all_eq_true.1 ha _ (gi_mem hk)
  rw [h] at this; cases this
theorem allIn_t {lo hi : Int} {xs : List Int} (h : ∀ k, k < xs.length → inB (gi xs k) lo hi = true) : allIn lo hi xs = true := by
  refine List.all_eq_true.2 fun x hx => ?_
  obtain ⟨j, hj, rfl⟩ := List.getElem_of_mem hx
  have := h j hj
  unfold gi at this
  rw [List.getD_eq_getElem?_getD, List.getElem?_eq_getElem hj] at this
  exact this

theorem allWithin1_v (b : Bool) (w : World) (n lo hi : Int) (p q : Nat) (h1 : w.cell? ⟨p, 0, none⟩ = some (.int .i64 lo)) (h2 : w.cell? ⟨q, 0, none⟩ = some (.int .i64 hi)) (hb : inB n lo hi = b) :
    Calls Try.prog 174 #[.int .i64 n, .pointer (some ⟨p, 0, none⟩), .pointer (some ⟨q, 0, none⟩)] w (Qt w (.bool (!b))) := by
  go_enter Try.func174, Try.ntmps174
  go_wp2_with fail
  refine (within_v b _ _ _ _ hb).mono ?_
  rintro e w' ⟨rfl, m, rfl⟩
  go_wp2
  go_ret
  exact Qt.d1 rfl

theorem indexFunc_all (w : World) (B : Nat) (A : Option Addr) (n c : Nat) (xs : List Int) (lo hi : Int) (p q : Nat) (h : Sl w B A n c xs) (hn : n ≤ 1048576) (h1 : w.cell? ⟨p, 0, none⟩ = some (.int .i64 lo)) (h2 : w.cell? ⟨q, 0, none⟩ = some (.int .i64 hi)) :
    Calls Try.prog 184 #[.slice A n c, .func (.func 174) #[] #[.pointer (some ⟨p, 0, none⟩), .pointer (some ⟨q, 0, none⟩)]] w (fun e w' => ∃ r : Int, e = .returned (.int .i64 r) ∧ decide (0 ≤ r) = !(allIn lo hi xs) ∧ Dr w w') := by
  obtain rfl := h.len
  go_enter Try.func184, Try.ntmps184
  go_wp2_with fail
  go_loopw [8] (fun i wr => ∃ k : Nat, k ≤ xs.length ∧ i = .int .i64 k ∧ (∀ j, j < k → inB (gi xs j) lo hi = true) ∧ Dr w wr) (fun i _ => xs.length - (intOf i).toNat)
  case atStart => exact ⟨0, by omega, rfl, fun j hj => absurd hj (by omega), Dr.refl _⟩
  case round =>
    obtain ⟨k, hk, rfl, hpre, hDr⟩ := hrel
    obtain ⟨dm, rfl⟩ := hDr
    have hP := hide hpre
    clear hpre
    by_cases hlt : k < xs.length
    · obtain ⟨b, off, rfl, hb, hc⟩ := h.at_ (by omega)
      have c1 := hc k hlt
      clear hc
      cases hv : inB (gi xs k) lo hi with
      | true =>
        have hv' := hide hv
        clear hv
        go_wp2_with fail
        refine (allWithin1_v true (w.drewN dm) _ _ _ _ _ (by exact h1) (by exact h2) hv'.out).mono ?_
        rintro e w' ⟨rfl, m, rfl⟩
        go_wp2_with fail
        go_roundw
        case rel => exact ⟨k + 1, by omega, by go_num, fun j hj => by rcases Nat.lt_succ_iff_lt_or_eq.1 hj with h | rfl; exact hP.out j h; exact hv'.out, _, rfl⟩
        case measure => simp [intOf] <;> omega
      | false =>
        have hF := hide (allIn_f hlt hv)
        have hv' := hide hv
        clear hv
        go_wp2_with fail
        refine (allWithin1_v false (w.drewN dm) _ _ _ _ _ (by exact h1) (by exact h2) hv'.out).mono ?_
        rintro e w' ⟨rfl, m, rfl⟩
        go_wp2_with fail
        go_ret
        exact ⟨k, rfl, by rw [hF.out]; simp, _, rfl⟩
    · obtain rfl : k = xs.length := by omega
      have hT := hide (allIn_t fun j hj => hP.out j hj)
      go_wp2
      go_ret
      exact ⟨-1, rfl, by rw [hT.out]; rfl, _, rfl⟩
theorem allWithin_any (w : World) (B : Nat) (A : Option Addr) (n c : Nat) (xs : List Int) (lo hi : Int) (h : Sl w B A n c xs) (hB : B ≤ w.heap.size) (hn : n ≤ 1048576) :
    Calls Try.prog 119 #[.slice A n c, .int .i64 lo, .int .i64 hi] w (Re w (.bool (allIn lo hi xs))) := by
  have hcf : ∀ W : World, ∀ p q : Nat, Sl W B A n c xs → W.cell? ⟨p, 0, none⟩ = some (.int .i64 lo) → W.cell? ⟨q, 0, none⟩ = some (.int .i64 hi) →
      Calls Try.prog 158 #[.slice A n c, .func (.func 174) #[] #[.pointer (some ⟨p, 0, none⟩), .pointer (some ⟨q, 0, none⟩)]] W (Qt W (.bool (!(allIn lo hi xs)))) := by
    intro W p q hs g1 g2
    go_enter Try.func158, Try.ntmps158
    go_wp2_with fail
    refine (indexFunc_all _ _ _ _ _ _ _ _ _ _ (by exact hs) hn (by exact g1) (by exact g2)).mono ?_
    rintro e w' ⟨r, rfl, hr, dm, rfl⟩
    have hR := hide hr
    clear hr
    go_wp2
    go_ret
    exact Qt.mk' _ rfl (bool_eq hR.out)
  go_enter Try.func119, Try.ntmps119
  go_wp2_with fail
  refine (hcf _ _ _ (h.below (by repeat (first | assumption | exact Below.refl _ _ | apply below_drewN | apply Below.drew | apply Below.alloc | apply Below.setCell | omega | (focus (simp; done)) | (focus (simp; omega))))) (by go_simp) (by go_simp)).mono ?_
  rintro e w' ⟨rfl, hDr⟩
  have hDr : Dr _ w' := hDr
  go_wp2
  go_ret
  exact ⟨by simp, hDr.below (by repeat (first | assumption | exact Below.refl _ _ | apply below_drewN | apply Below.drew | apply Below.alloc | apply Below.setCell | omega | (focus (simp; done)) | (focus (simp; omega))))⟩

end Go.Proofs.Ytneflhachjlmkaa
