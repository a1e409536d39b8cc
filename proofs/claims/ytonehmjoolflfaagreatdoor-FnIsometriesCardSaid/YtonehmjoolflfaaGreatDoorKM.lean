
/- The kind of a metric: a struct of orders, a modulus and values. -/
import Derived.Test.YtonehmjoolflfaaGreatDoorNa
import Derived.Test.YtonehmjoolflfaaGreatDoorLa
namespace Go.Proofs.YtonehmjoolflfaaGreatDoor
open Go Go.RowKit
set_option linter.unusedSimpArgs false
set_option linter.unusedVariables false
set_option maxRecDepth 100000
abbrev metric_T := List Int × Int × List Int
def metric_R (w : World) (B : Nat) (v : Value) (x : metric_T) : Prop := ∃ A n c D m e, v = .agg #[.slice A n c, .int .i64 x.2.1, .slice D m e] ∧ Sl w B A n c x.1 ∧ Sl w B D m e x.2.2 ∧ i64ok x.2.1
def metric_E : Own metric_T := fun w v x fp => i64ok x.2.1 ∧ ∃ u1 u2 F1 F2, v = .agg #[u1, .int .i64 x.2.1, u2] ∧ E1 w u1 x.1 F1 ∧ E1 w u2 x.2.2 F2 ∧ (∀ b, F1 b → F2 b → False) ∧ (∀ b, F1 b → fp b) ∧ (∀ b, F2 b → fp b) ∧ (∀ b, fp b → b < w.heap.size)
def metric_tot (x : metric_T) : Nat := x.1.length + x.2.2.length
def metric_Sh (x : metric_T) : Prop := metric_tot x ≤ 1073741824
section
variable {w w' : World} {B B' : Nat} {v : Value} {x : metric_T} {fp fq : Nat → Prop}
theorem metric_rd (h : metric_E w v x fp) : metric_R w w.heap.size v x := by
  obtain ⟨h0, u1, u2, F1, F2, rfl, h1, h2, _⟩ := h
  obtain ⟨A, c, rfl, hs⟩ := h1.sl
  obtain ⟨D, e, rfl, hs'⟩ := h2.sl
  exact ⟨A, _, c, D, _, e, rfl, hs, hs', h0⟩
theorem metric_kp : Kp metric_E := by
  intro w w' v x fp h hk hs
  obtain ⟨h0, u1, u2, F1, F2, e, h1, h2, h3, h4, h5, h6⟩ := h
  exact ⟨h0, u1, u2, F1, F2, e, kp1 _ _ _ _ _ h1 (fun b hb => hk b (h4 b hb)) hs, kp1 _ _ _ _ _ h2 (fun b hb => hk b (h5 b hb)) hs, h3, h4, h5, fun b hb => Nat.lt_of_lt_of_le (h6 b hb) hs⟩
theorem metric_bd (h : metric_E w v x fp) : ∀ b, fp b → b < w.heap.size := by
  obtain ⟨_, _, _, _, _, _, _, _, _, _, _, h6⟩ := h
  exact h6
theorem metric_below (h : metric_E w v x fp) (hb : Below w.heap.size w w') : metric_E w' v x fp := metric_kp _ _ _ _ _ h (fun b hf => hb.block b (metric_bd h b hf)) hb.size
theorem metric_mono (h : metric_E w v x fp) (hf : ∀ b, fp b → fq b) (hb : ∀ b, fq b → b < w.heap.size) : metric_E w v x fq := by
  obtain ⟨h0, u1, u2, F1, F2, e, h1, h2, h3, h4, h5, h6⟩ := h
  exact ⟨h0, u1, u2, F1, F2, e, h1, h2, h3, fun b hb => hf b (h4 b hb), fun b hb => hf b (h5 b hb), hb⟩
end
end Go.Proofs.YtonehmjoolflfaaGreatDoor
