
/- The equations of cocycles, plain; the walks of the codes of CocycleDimension and CoboundaryDimension. -/
import Derived.Test.YtnhgflmmfppmnaaCD3
import Derived.Test.YtnhgflmmfppmnaaCO2
namespace Go.Proofs.Ytnhgflmmfppmnaa
open Go Go.RowKit Grp Rk
set_option linter.unusedSimpArgs false
set_option linter.unusedVariables false
set_option maxRecDepth 100000
/-! ### ranks as numbers -/
open Classical in
noncomputable def rkN (p : Int) (m : Nat) (G : Vec → Prop) : Nat := if h : ∃ k, HasRk p m G k then Classical.choose h else 0
theorem rkN_eq {p : Int} (hp : IsP p) {m : Nat} {G : Vec → Prop} {k : Nat} (h : HasRk p m G k) : rkN p m G = k := by
  unfold rkN
  rw [dif_pos ⟨k, h⟩]
  exact rk_eq hp (Classical.choose_spec (⟨k, h⟩ : ∃ k, HasRk p m G k)) h (fun g hg => Sp.gen hg) (fun g hg => Sp.gen hg)
theorem hasRk_span {p : Int} {m : Nat} {G H : Vec → Prop} {k : Nat} (h : HasRk p m G k) (hGH : ∀ g, G g → Sp p m H g) (hHG : ∀ g, H g → Sp p m G g) : HasRk p m H k := by
  obtain ⟨R, l, h1, h2, h3⟩ := h
  exact ⟨R, l, h1, fun g hg => (hHG g hg).mono h2, fun i hi => (h3 i hi).mono hGH⟩
theorem genL_mem {xs : List (List Int)} {v : Vec} : GenL xs xs.length v ↔ ∃ x, x ∈ xs ∧ v = vec x := by
  constructor
  · rintro ⟨i, x, _, h, rfl⟩
    exact ⟨x, get_mem h, rfl⟩
  · rintro ⟨x, hx, rfl⟩
    obtain ⟨i, hi, rfl⟩ := List.getElem_of_mem hx
    exact ⟨i, _, hi, List.getElem?_eq_getElem hi, rfl⟩
theorem rows_gen (xs : List (List Int)) : (Rk.Rows xs.length fun i => vec (xs.getD i [])) = GenL xs xs.length := by
  funext v
  apply propext
  constructor
  · rintro ⟨i, hi, rfl⟩
    obtain ⟨x, hx⟩ := get_at hi
    exact ⟨i, x, hi, hx, by show vec (xs.getD i []) = vec x; rw [getD_of hx]⟩
  · rintro ⟨i, x, hi, hx, rfl⟩
    exact ⟨i, hi, by show vec x = vec (xs.getD i []); rw [getD_of hx]⟩
theorem vec_rep_zero (p : Int) (m M : Nat) (G : Vec → Prop) : Sp p m G (vec (List.replicate M 0)) := by
  refine .zero _ fun j hj => ?_
  have : gi (List.replicate M (0 : Int)) j = 0 := by
    unfold gi
    rw [List.getD_eq_getElem?_getD, List.getElem?_replicate]
    split <;> rfl
  show p ∣ gi _ _
  rw [this]
  exact Int.dvd_zero p
/-! ### equations -/
def ix (m a b c : Nat) : Nat := ((a - 1) * m + (b - 1)) * m + (c - 1)
theorem ix_lt {m a b c : Nat} (ha : 1 ≤ a) (ha' : a ≤ m) (hb : 1 ≤ b) (hb' : b ≤ m) (hc : 1 ≤ c) (hc' : c ≤ m) : ix m a b c < m * m * m := by
  unfold ix
  have h1 : (a - 1) * m + (b - 1) + 1 ≤ m * m := by
    have : (a - 1) * m ≤ (m - 1) * m := Nat.mul_le_mul_right _ (by omega)
    have e : (m - 1) * m + m = m * m := by rw [← Nat.succ_mul]; congr 1; omega
    omega
  have h2 : ((a - 1) * m + (b - 1)) * m + m ≤ m * m * m := by
    have := Nat.mul_le_mul_right m h1
    rw [Nat.succ_mul] at this
    exact this
  omega
def bump (p : Int) (m : Nat) (row : List Int) (a b c : Nat) (v : Int) : List Int := if 0 < a ∧ 0 < b ∧ 0 < c then row.set (ix m a b c) ((gi row (ix m a b c) + v) % p) else row
theorem bump_no {p : Int} {m : Nat} {row : List Int} {a b c : Nat} {v : Int} (h : ¬ (0 < a ∧ 0 < b ∧ 0 < c)) : bump p m row a b c v = row := by unfold bump; rw [if_neg h]
theorem bump_yes {p : Int} {m : Nat} {row : List Int} {a b c : Nat} {v : Int} (h : 0 < a ∧ 0 < b ∧ 0 < c) : bump p m row a b c v = row.set (ix m a b c) ((gi row (ix m a b c) + v) % p) := by unfold bump; rw [if_pos h]
theorem bump_in {p : Int} {m M : Nat} {row : List Int} {a b c : Nat} {v : Int} (hp : 2 ≤ p) (h : In01 p M row) : In01 p M (bump p m row a b c v) := by
  unfold bump
  split
  · refine ⟨by rw [List.length_set]; exact h.1, fun j hj => ?_⟩
    rw [gi_set (by rw [h.1]; exact hj)]
    split
    · exact ⟨Int.emod_nonneg _ (by omega), Int.emod_lt_of_pos _ (by omega)⟩
    · exact h.2 j hj
  · exact h
theorem gi_rep (M j : Nat) : gi (List.replicate M (0 : Int)) j = 0 := by
  unfold gi
  rw [List.getD_eq_getElem?_getD, List.getElem?_replicate]
  split <;> rfl
theorem bump_cancel {p : Int} {m M : Nat} {a b c : Nat} {u v : Int} (hp : 2 ≤ p) (huv : u + v = 0) : bump p m (bump p m (List.replicate M 0) a b c u) a b c v = List.replicate M 0 := by
  by_cases h : 0 < a ∧ 0 < b ∧ 0 < c
  · rw [bump_yes h, bump_yes h]
    refine list_ext_gi (by simp) fun j hj => ?_
    have hj' : j < M := by simpa using hj
    rw [gi_set (by simpa using hj'), gi_rep]
    by_cases e : j = ix m a b c
    · rw [if_pos e, gi_set (by simp; omega), if_pos rfl, gi_rep]
      rw [Int.emod_add_emod, Int.zero_add, huv]
      simp
    · rw [if_neg e, gi_set (by simpa using hj'), if_neg e, gi_rep]
  · rw [bump_no h, bump_no h]
/-- The row of an equation. -/
def eqRow (os : List Int) (p : Int) (n x y z t : Nat) : List Int :=
  bump p (n - 1) (bump p (n - 1) (bump p (n - 1) (bump p (n - 1) (bump p (n - 1) (List.replicate ((n - 1) * (n - 1) * (n - 1)) 0) y z t 1) (An os x y) z t (-1)) x (An os y z) t 1) x y (An os z t) (-1)) x y z 1
theorem eqRow_in {os : List Int} {p : Int} {n x y z t : Nat} (hp : 2 ≤ p) : In01 p ((n - 1) * (n - 1) * (n - 1)) (eqRow os p n x y z t) :=
  bump_in hp (bump_in hp (bump_in hp (bump_in hp (bump_in hp (rep_in hp)))))
theorem An_x0 {os : List Int} (h : OkH os) {x : Nat} (hx : (x : Int) < prodL os) : An os x 0 = x := by
  have h1 := arH_zero h (x := (x : Int)) (by omega) hx
  unfold An
  rw [show ((0 : Nat) : Int) = 0 from rfl, h1]
  omega
theorem An_0x {os : List Int} (h : OkH os) {x : Nat} (hx : (x : Int) < prodL os) : An os 0 x = x := by
  have e : An os 0 x = An os x 0 := by
    unfold An Ar
    rw [addR_comm]
  rw [e]
  exact An_x0 h hx
theorem eqRow_zero {os : List Int} (h : OkH os) {p : Int} {n x y z t : Nat} (hp : 2 ≤ p) (hn : (n : Int) = prodL os) (hx : x < n) (hy : y < n) (hz : z < n) (ht : t < n) (h0 : x = 0 ∨ y = 0 ∨ z = 0 ∨ t = 0) :
    eqRow os p n x y z t = List.replicate ((n - 1) * (n - 1) * (n - 1)) 0 := by
  unfold eqRow
  rcases h0 with rfl | rfl | rfl | rfl
  · rw [An_0x h (by omega), bump_cancel hp (by omega), bump_no (by omega), bump_no (by omega), bump_no (by omega)]
  · rw [An_x0 h (by omega), An_0x h (by omega), bump_no (a := 0) (by omega), bump_cancel hp (by omega), bump_no (by omega), bump_no (by omega)]
  · rw [An_x0 h (by omega), An_0x h (by omega), bump_no (b := 0) (by omega), bump_no (b := 0) (by omega), bump_cancel hp (by omega), bump_no (by omega)]
  · rw [An_x0 h (by omega), bump_no (c := 0) (by omega), bump_no (c := 0) (by omega), bump_no (c := 0) (by omega), bump_cancel hp (by omega)]
/-- The equations. -/
def EqG (os : List Int) (p : Int) (n : Nat) : Vec → Prop := fun v => ∃ x y z t : Nat, (1 ≤ x ∧ x < n) ∧ (1 ≤ y ∧ y < n) ∧ (1 ≤ z ∧ z < n) ∧ (1 ≤ t ∧ t < n) ∧ v = vec (eqRow os p n x y z t)
/-! ### codes -/
open Classical in
noncomputable def prB4 (p : Int) : Bool := decide (Pr4 p)
theorem prB4_t {p : Int} (h : Pr4 p) : prB4 p = true := by simp [prB4, h]
theorem prB4_f {p : Int} (h : ¬ Pr4 p) : prB4 p = false := by simp [prB4, h]
theorem l17Prime_any (w : World) (p : Int) : Calls Try.prog 33 #[.int .i64 p] w (Qt w (.bool (prB4 p))) := by
  by_cases h2 : p = 2
  · have hE := hide (prB4_t (show Pr4 p from .inl h2))
    have t1 : (p == 2) = true := by simp [h2]
    clear h2
    go_enter Try.func33, Try.ntmps33
    go_wp2_with fail
    go_ret
    exact Qt.mk' 0 rfl (bool_eq hE.out.symm)
  have t1 : (p == 2) = false := by simp [h2]
  by_cases h3 : p = 3
  · have hE := hide (prB4_t (show Pr4 p from .inr (.inl h3)))
    have t2 : (p == 3) = true := by simp [h3]
    clear h2 h3
    go_enter Try.func33, Try.ntmps33
    go_wp2_with fail
    go_ret
    exact Qt.mk' 0 rfl (bool_eq hE.out.symm)
  have t2 : (p == 3) = false := by simp [h3]
  by_cases h5 : p = 5
  · have hE := hide (prB4_t (show Pr4 p from .inr (.inr (.inl h5))))
    have t3 : (p == 5) = true := by simp [h5]
    clear h2 h3 h5
    go_enter Try.func33, Try.ntmps33
    go_wp2_with fail
    go_ret
    exact Qt.mk' 0 rfl (bool_eq hE.out.symm)
  have t3 : (p == 5) = false := by simp [h5]
  by_cases h7 : p = 7
  · have hE := hide (prB4_t (show Pr4 p from .inr (.inr (.inr h7))))
    have t4 : (p == 7) = true := by simp [h7]
    clear h2 h3 h5 h7
    go_enter Try.func33, Try.ntmps33
    go_wp2_with fail
    go_ret
    exact Qt.mk' 0 rfl (bool_eq hE.out.symm)
  have t4 : (p == 7) = false := by simp [h7]
  have hE := hide (prB4_f (p := p) (by unfold Pr4; omega))
  clear h2 h3 h5 h7
  go_enter Try.func33, Try.ntmps33
  go_wp2_with fail
  go_ret
  exact Qt.mk' 0 rfl (bool_eq hE.out.symm)
theorem isSmallPrime_any (w : World) (p : Int) : Calls Try.prog 27 #[.int .i64 p] w (Qt w (.bool (prB4 p))) := by
  by_cases h2 : p = 2
  · have hE := hide (prB4_t (show Pr4 p from .inl h2))
    have t1 : (p == 2) = true := by simp [h2]
    clear h2
    go_enter Try.func27, Try.ntmps27
    go_wp2_with fail
    go_ret
    exact Qt.mk' 0 rfl (bool_eq hE.out.symm)
  have t1 : (p == 2) = false := by simp [h2]
  by_cases h3 : p = 3
  · have hE := hide (prB4_t (show Pr4 p from .inr (.inl h3)))
    have t2 : (p == 3) = true := by simp [h3]
    clear h2 h3
    go_enter Try.func27, Try.ntmps27
    go_wp2_with fail
    go_ret
    exact Qt.mk' 0 rfl (bool_eq hE.out.symm)
  have t2 : (p == 3) = false := by simp [h3]
  by_cases h5 : p = 5
  · have hE := hide (prB4_t (show Pr4 p from .inr (.inr (.inl h5))))
    have t3 : (p == 5) = true := by simp [h5]
    clear h2 h3 h5
    go_enter Try.func27, Try.ntmps27
    go_wp2_with fail
    go_ret
    exact Qt.mk' 0 rfl (bool_eq hE.out.symm)
  have t3 : (p == 5) = false := by simp [h5]
  by_cases h7 : p = 7
  · have hE := hide (prB4_t (show Pr4 p from .inr (.inr (.inr h7))))
    have t4 : (p == 7) = true := by simp [h7]
    clear h2 h3 h5 h7
    go_enter Try.func27, Try.ntmps27
    go_wp2_with fail
    go_ret
    exact Qt.mk' 0 rfl (bool_eq hE.out.symm)
  have t4 : (p == 7) = false := by simp [h7]
  have hE := hide (prB4_f (p := p) (by unfold Pr4; omega))
  clear h2 h3 h5 h7
  go_enter Try.func27, Try.ntmps27
  go_wp2_with fail
  go_ret
  exact Qt.mk' 0 rfl (bool_eq hE.out.symm)
noncomputable def spK (os : List Int) (p : Int) : Int := if cdO os 6 = 0 then if prB4 p = true then 0 else 2 else cdO os 6
theorem spK_0 {os : List Int} {p : Int} (h : spK os p = 0) : OrdH os ∧ prodL os ≤ 6 ∧ Pr4 p := by
  unfold spK at h
  split at h
  · rename_i h0
    split at h
    · rename_i h1
      obtain ⟨a, b⟩ := cdO_0 h0
      refine ⟨a, b, ?_⟩
      simpa [prB4] using h1
    · cases h
  · rename_i h0; exact absurd h h0
theorem spaceCode_any (w : World) (A : Option Addr) (n c : Nat) (os : List Int) (p : Int) (h : Sl w w.heap.size A n c os) (hn : n ≤ 1048576) : Calls Try.prog 14 #[.slice A n c, .int .i64 p] w (Qt w (.int .i64 (spK os p))) := by
  have HO := hide (by
    have h9 := ordersCode_any w _ A n c os 6 h hn
    rw [codeO_eq (by omega) (by omega)] at h9
    exact h9)
  by_cases h0 : cdO os 6 = 0
  · have hE : ∀ b : Bool, prB4 p = b → spK os p = (if b = true then 0 else 2) := fun b hb => by unfold spK; rw [if_pos h0, hb]
    have HE := hide hE
    rw [h0] at HO
    clear h0 hE
    have HP := hide (fun W => isSmallPrime_any W p)
    cases hb : prB4 p
    all_goals
      have hEE := hide (HE.out _ hb)
      rw [hb] at HP
      clear hb
      go_enter Try.func14, Try.ntmps14
      go_wp2_with fail
      refine HO.out.mono ?_
      rintro e w1 ⟨rfl, d, rfl⟩
      go_wp2_with fail
      refine (HP.out _).mono ?_
      rintro e w1 ⟨rfl, d2, rfl⟩
      go_wp2_with fail
      go_ret
      exact Qt.mk' _ rfl (by rw [hEE.out]; rfl)
  · have hE := hide (show spK os p = cdO os 6 by unfold spK; rw [if_neg h0])
    obtain ⟨q, hq⟩ : ∃ q, cdO os 6 = q := ⟨_, rfl⟩
    rw [hq] at HO hE h0
    have t : (q != 0) = true := by simp [h0]
    clear h0 hq
    go_enter Try.func14, Try.ntmps14
    go_wp2_with fail
    refine HO.out.mono ?_
    rintro e w1 ⟨rfl, d, rfl⟩
    go_wp2_with fail
    go_ret
    exact Qt.mk' _ rfl (by rw [hE.out]; rfl)
theorem l17Small_any (w : World) (A : Option Addr) (n c : Nat) (os : List Int) (p : Int) (h : Sl w w.heap.size A n c os) (hn : n ≤ 1048576) : Calls Try.prog 20 #[.slice A n c, .int .i64 p] w (Qt w (.int .i64 (spK os p))) := by
  have HO := hide (l06Orders_any w _ _ _ _ _ h hn)
  cases ho : ordHB os with
  | false =>
    have hE := hide (show spK os p = 1 by unfold spK cdO; rw [ho]; rfl)
    rw [ho] at HO
    clear ho
    go_enter Try.func20, Try.ntmps20
    go_wp2_with fail
    refine HO.out.mono ?_
    rintro e w1 ⟨rfl, d, rfl⟩
    go_wp2_with fail
    go_ret
    exact Qt.mk' _ rfl (by rw [hE.out]; rfl)
  | true =>
    have hO := ordHB_iff.1 ho
    have hp := prodL_pos hO.2
    have HZ := hide (fun W (hW : Sl W w.heap.size A n c os) => l17Size_any W _ _ _ _ _ hW hn hO.2)
    rw [ho] at HO
    by_cases h6 : 6 < prodL os
    · have hE := hide (show spK os p = 3 by unfold spK cdO; rw [ho, if_pos h6]; rfl)
      obtain ⟨y, hy⟩ : ∃ y, min (9 : Int) (prodL os) = y := ⟨_, rfl⟩
      have hy6 : 6 < y := by omega
      rw [hy] at HZ
      clear ho hy h6 hp hO
      go_enter Try.func20, Try.ntmps20
      go_wp2_with fail
      refine HO.out.mono ?_
      rintro e w1 ⟨rfl, d, rfl⟩
      go_wp2_with fail
      refine (HZ.out _ (h.drewN _)).mono ?_
      rintro e w1 ⟨rfl, d2, rfl⟩
      go_wp2_with fail
      go_ret
      exact Qt.mk' _ rfl (by rw [hE.out]; rfl)
    · have hE : ∀ b : Bool, prB4 p = b → spK os p = (if b = true then 0 else 2) := fun b hb => by unfold spK cdO; rw [ho, if_neg h6, hb]; rfl
      have HE := hide hE
      obtain ⟨y, hy⟩ : ∃ y, min (9 : Int) (prodL os) = y := ⟨_, rfl⟩
      have hy6 : ¬ 6 < y := by omega
      rw [hy] at HZ
      clear ho hy h6 hp hO hE
      have HP := hide (fun W => l17Prime_any W p)
      cases hb : prB4 p
      all_goals
        have hEE := hide (HE.out _ hb)
        rw [hb] at HP
        clear hb
        go_enter Try.func20, Try.ntmps20
        go_wp2_with fail
        refine HO.out.mono ?_
        rintro e w1 ⟨rfl, d, rfl⟩
        go_wp2_with fail
        refine (HZ.out _ (h.drewN _)).mono ?_
        rintro e w1 ⟨rfl, d2, rfl⟩
        go_wp2_with fail
        refine (HP.out _).mono ?_
        rintro e w1 ⟨rfl, d3, rfl⟩
        go_wp2_with fail
        go_ret
        exact Qt.mk' _ rfl (by rw [hEE.out]; rfl)
end Go.Proofs.Ytnhgflmmfppmnaa
