
/- The kind of a metric: a struct of orders, a modulus and values. -/
import Derived.Test.YtbpihnpakolooaaGreatDoorKD0
import Derived.Test.YtbpihnpakolooaaGreatDoorLa
namespace Go.Proofs.YtbpihnpakolooaaGreatDoor
open Go Go.RowKit
set_option linter.unusedSimpArgs false
set_option linter.unusedVariables false
set_option maxRecDepth 100000
abbrev metric_T := List Int × Int × List Int
def metric_R (w : World) (B : Nat) (v : Value) (x : metric_T) : Prop := ∃ A n c D m e, v = .agg #[.slice A n c, .int .i64 x.2.1, .slice D m e] ∧ Sl w B A n c x.1 ∧ Sl w B D m e x.2.2 ∧ i64ok x.2.1
def metric_E : Own metric_T := fun w v x fp => i64ok x.2.1 ∧ ∃ u1 u2 F1 F2, v = .agg #[u1, .int .i64 x.2.1, u2] ∧ E1 w u1 x.1 F1 ∧ E1 w u2 x.2.2 F2 ∧ (∀ b, F1 b → F2 b → False) ∧ (∀ b, F1 b → fp b) ∧ (∀ b, F2 b → fp b) ∧ (∀ b, fp b → b < w.heap.size)
def metric_Big (x : metric_T) : Prop := x.1.length ≤ 9223372036854775807 ∧ x.2.2.length ≤ 9223372036854775807
def metric_tot (x : metric_T) : Nat := x.1.length + x.2.2.length
def metric_Sh (x : metric_T) : Prop := metric_tot x ≤ 1048576
def metric_sum (x : metric_T) : Nat := metric_tot x
def metric_mk (q : Int) (x : metric_T) : metric_T := (mark1 q x.1, x.2.1, mark1 (q + x.1.length) x.2.2)
def metric_held (q : Int) (x : metric_T) : Int := heldM q x.1 x.2.2
section
variable {w w' : World} {B B' : Nat} {v : Value} {x : metric_T} {fp fq : Nat → Prop}
theorem metric_form (h : metric_R w B v x) : ∃ A n c z D m e, v = .agg #[.slice A n c, .int .i64 z, .slice D m e] ∧ x.2.1 = z := by
  obtain ⟨A, n, c, D, m, e, h1, _⟩ := h
  exact ⟨A, n, c, _, D, m, e, h1, rfl⟩
theorem metric_keep (h : metric_R w B v x) (hb : Below B w w') (hB : B ≤ B') : metric_R w' B' v x := by
  obtain ⟨A, n, c, D, m, e, h1, h2, h3, h4⟩ := h
  exact ⟨A, n, c, D, m, e, h1, (h2.below hb).more hB, (h3.below hb).more hB, h4⟩
theorem metric_rd (h : metric_E w v x fp) : metric_R w w.heap.size v x := by
  obtain ⟨h0, u1, u2, F1, F2, rfl, h1, h2, _⟩ := h
  obtain ⟨A, c, rfl, hs⟩ := h1.sl
  obtain ⟨D, e, rfl, hs'⟩ := h2.sl
  exact ⟨A, _, c, D, _, e, rfl, hs, hs', h0⟩
theorem metric_kp : Kp metric_E := by
  intro w w' v x fp h hk hs
  obtain ⟨h0, u1, u2, F1, F2, e, h1, h2, h3, h4, h5, h6⟩ := h
  exact ⟨h0, u1, u2, F1, F2, e, kp1 _ _ _ _ _ h1 (fun b hb => hk b (h4 b hb)) hs, kp1 _ _ _ _ _ h2 (fun b hb => hk b (h5 b hb)) hs, h3, h4, h5, fun b hb => Nat.lt_of_lt_of_le (h6 b hb) hs⟩
theorem metric_bd (h : metric_E w v x fp) : ∀ b, fp b → b < w.heap.size := by
  obtain ⟨_, _, _, _, _, _, _, _, _, _, _, h6⟩ := h
  exact h6
theorem metric_below (h : metric_E w v x fp) (hb : Below w.heap.size w w') : metric_E w' v x fp := metric_kp _ _ _ _ _ h (fun b hf => hb.block b (metric_bd h b hf)) hb.size
theorem metric_wr (h : metric_E w v x fp) (hw : Wr w w' fq) (hd : ∀ b, fp b → fq b → False) : metric_E w' v x fp := metric_kp _ _ _ _ _ h (fun b hb => hw.block b (metric_bd h b hb) (hd b hb)) hw.size
theorem metric_mono (h : metric_E w v x fp) (hf : ∀ b, fp b → fq b) (hb : ∀ b, fq b → b < w.heap.size) : metric_E w v x fq := by
  obtain ⟨h0, u1, u2, F1, F2, e, h1, h2, h3, h4, h5, h6⟩ := h
  exact ⟨h0, u1, u2, F1, F2, e, h1, h2, h3, fun b hb => hf b (h4 b hb), fun b hb => hf b (h5 b hb), hb⟩
theorem metric_sh (h : metric_tot x ≤ 1048576) : metric_Sh x := h
theorem metric_sumle (x : metric_T) : metric_sum x ≤ metric_tot x := Nat.le_refl _
theorem metric_shmk {q : Int} (h : metric_Sh x) : metric_Sh (metric_mk q x) := by
  unfold metric_Sh metric_tot metric_mk mark1 at *
  rw [marks_length, marks_length]; exact h
theorem metric_heldmk1 : metric_held 1 (metric_mk 1 x) = 1 + (metric_sum x : Int) := by
  unfold metric_held metric_mk metric_sum metric_tot mark1
  simp only
  have h1 := heldI_marks x.1.length 1
  have h2 := heldI_marks x.2.2.length (1 + (x.1.length : Int))
  rw [heldM_3 (by omega) (by rw [h1]; omega), h1, h2]
  omega
theorem szM_eq (l : Int) (n m : Nat) : szM l n m = szI l (n + m) := by
  unfold szM szI
  by_cases h1 : l - (n : Int) < 0
  · rw [if_pos h1, if_pos (by omega), if_pos (by omega)]
  · rw [if_neg h1, if_neg h1]
    by_cases h2 : l - (n : Int) - m < 0
    · rw [if_pos h2, if_pos (by omega), if_pos (by omega)]
    · rw [if_neg h2, if_neg h2, if_neg (by omega)]; omega
end
end Go.Proofs.YtbpihnpakolooaaGreatDoor
