
/- The kind of a metric: a struct of orders, a modulus and values. -/
import Derived.Test.YtlhfjfpgoaiijaaKD0
import Derived.Test.YtlhfjfpgoaiijaaLa
import Derived.Test.YtlhfjfpgoaiijaaOa
namespace Go.Proofs.Ytlhfjfpgoaiijaa
open Go Go.RowKit
set_option linter.unusedSimpArgs false
set_option linter.unusedVariables false
set_option maxRecDepth 100000
abbrev metric_T := List Int × Int × List Int
def metric_R (w : World) (B : Nat) (v : Value) (x : metric_T) : Prop := ∃ A n c D m e, v = .agg #[.slice A n c, .int .i64 x.2.1, .slice D m e] ∧ Sl w B A n c x.1 ∧ Sl w B D m e x.2.2 ∧ i64ok x.2.1
def metric_E : Own metric_T := fun w v x fp => i64ok x.2.1 ∧ ∃ u1 u2 F1 F2, v = .agg #[u1, .int .i64 x.2.1, u2] ∧ E1 w u1 x.1 F1 ∧ E1 w u2 x.2.2 F2 ∧ (∀ b, F1 b → F2 b → False) ∧ (∀ b, F1 b → fp b) ∧ (∀ b, F2 b → fp b) ∧ (∀ b, fp b → b < w.heap.size)
def metric_Big (x : metric_T) : Prop := x.1.length ≤ 9223372036854775807 ∧ x.2.2.length ≤ 9223372036854775807
def metric_tot (x : metric_T) : Nat := x.1.length + x.2.2.length
def metric_Sh (x : metric_T) : Prop := metric_tot x ≤ 1048576
def metric_sum (x : metric_T) : Nat := metric_tot x
def metric_mk (q : Int) (x : metric_T) : metric_T := (mark1 q x.1, x.2.1, mark1 (q + x.1.length) x.2.2)
def metric_held (q : Int) (x : metric_T) : Int := heldM q x.1 x.2.2
section
variable {w w' : World} {B B' : Nat} {v : Value} {x : metric_T} {fp fq : Nat → Prop}
theorem metric_form (h : metric_R w B v x) : ∃ A n c z D m e, v = .agg #[.slice A n c, .int .i64 z, .slice D m e] ∧ x.2.1 = z := by
  obtain ⟨A, n, c, D, m, e, h1, _⟩ := h
  exact ⟨A, n, c, _, D, m, e, h1, rfl⟩
theorem metric_keep (h : metric_R w B v x) (hb : Below B w w') (hB : B ≤ B') : metric_R w' B' v x := by
  obtain ⟨A, n, c, D, m, e, h1, h2, h3, h4⟩ := h
  exact ⟨A, n, c, D, m, e, h1, (h2.below hb).more hB, (h3.below hb).more hB, h4⟩
theorem metric_rd (h : metric_E w v x fp) : metric_R w w.heap.size v x := by
  obtain ⟨h0, u1, u2, F1, F2, rfl, h1, h2, _⟩ := h
  obtain ⟨A, c, rfl, hs⟩ := h1.sl
  obtain ⟨D, e, rfl, hs'⟩ := h2.sl
  exact ⟨A, _, c, D, _, e, rfl, hs, hs', h0⟩
theorem metric_kp : Kp metric_E := by
  intro w w' v x fp h hk hs
  obtain ⟨h0, u1, u2, F1, F2, e, h1, h2, h3, h4, h5, h6⟩ := h
  exact ⟨h0, u1, u2, F1, F2, e, kp1 _ _ _ _ _ h1 (fun b hb => hk b (h4 b hb)) hs, kp1 _ _ _ _ _ h2 (fun b hb => hk b (h5 b hb)) hs, h3, h4, h5, fun b hb => Nat.lt_of_lt_of_le (h6 b hb) hs⟩
theorem metric_bd (h : metric_E w v x fp) : ∀ b, fp b → b < w.heap.size := by
  obtain ⟨_, _, _, _, _, _, _, _, _, _, _, h6⟩ := h
  exact h6
theorem metric_below (h : metric_E w v x fp) (hb : Below w.heap.size w w') : metric_E w' v x fp := metric_kp _ _ _ _ _ h (fun b hf => hb.block b (metric_bd h b hf)) hb.size
theorem metric_wr (h : metric_E w v x fp) (hw : Wr w w' fq) (hd : ∀ b, fp b → fq b → False) : metric_E w' v x fp := metric_kp _ _ _ _ _ h (fun b hb => hw.block b (metric_bd h b hb) (hd b hb)) hw.size
theorem metric_mono (h : metric_E w v x fp) (hf : ∀ b, fp b → fq b) (hb : ∀ b, fq b → b < w.heap.size) : metric_E w v x fq := by
  obtain ⟨h0, u1, u2, F1, F2, e, h1, h2, h3, h4, h5, h6⟩ := h
  exact ⟨h0, u1, u2, F1, F2, e, h1, h2, h3, fun b hb => hf b (h4 b hb), fun b hb => hf b (h5 b hb), hb⟩
theorem metric_sh (h : metric_tot x ≤ 1048576) : metric_Sh x := h
theorem metric_sumle (x : metric_T) : metric_sum x ≤ metric_tot x := Nat.le_refl _
theorem metric_shmk {q : Int} (h : metric_Sh x) : metric_Sh (metric_mk q x) := by
  unfold metric_Sh metric_tot metric_mk mark1 at *
  rw [marks_length, marks_length]; exact h
theorem metric_heldmk1 : metric_held 1 (metric_mk 1 x) = 1 + (metric_sum x : Int) := by
  unfold metric_held metric_mk metric_sum metric_tot mark1
  simp only
  have h1 := heldI_marks x.1.length 1
  have h2 := heldI_marks x.2.2.length (1 + (x.1.length : Int))
  rw [heldM_3 (by omega) (by rw [h1]; omega), h1, h2]
  omega
theorem szM_eq (l : Int) (n m : Nat) : szM l n m = szI l (n + m) := by
  unfold szM szI
  by_cases h1 : l - (n : Int) < 0
  · rw [if_pos h1, if_pos (by omega), if_pos (by omega)]
  · rw [if_neg h1, if_neg h1]
    by_cases h2 : l - (n : Int) - m < 0
    · rw [if_pos h2, if_pos (by omega), if_pos (by omega)]
    · rw [if_neg h2, if_neg h2, if_neg (by omega)]; omega
end
theorem metric_sz (w : World) (v : Value) (x : metric_T) (l : Int) (h : metric_R w w.heap.size v x) (hb : metric_Big x) (hl : 0 ≤ l) (hl1 : l ≤ 1048576) : Calls Try.prog 4 #[v, .int .i64 l] w (Re w (.int .i64 (szI l (metric_tot x)))) := by
  obtain ⟨A, n, c, D, m, e, rfl, h1, h2, h3⟩ := h
  obtain rfl := h1.len
  obtain rfl := h2.len
  unfold metric_tot
  rw [← szM_eq]
  exact szMetric_any w A D _ c _ e _ l hl hl1 hb.1 hb.2
theorem metric_to (w : World) (v : Value) (x : metric_T) (h : metric_R w w.heap.size v x) (hs : metric_Sh x) : Calls Try.prog 6 #[v] w (MkE metric_E w x) := by
  obtain ⟨A, n, c, D, m, e, rfl, h1, h2, h3⟩ := h
  have hs' : x.1.length + x.2.2.length ≤ 1048576 := hs
  have l1 := h1.len
  have l2 := h2.len
  refine (toMetric_own w w.heap.size A D n c m e x.1 x.2.2 x.2.1 h1 h2 (Nat.le_refl _) (by omega) (by omega)).mono fun e' w' hh => ?_
  obtain ⟨v1, v2, e1, o1, o2, ha, hb⟩ := hh
  refine ⟨_, e1, ⟨h3, v1, v2, fun b => v1.ownBlock = some b, fun b => v2.ownBlock = some b, rfl, ⟨o1.less (Nat.zero_le _), h1.rng, fun _ h => h, fun b hb => (o1.lt b hb).2⟩, ⟨o2.less (Nat.zero_le _), h2.rng, fun _ h => h, fun b hb => (o2.lt b hb).2⟩, fun b h1 h2 => ha b h1 h2, fun b hb => o1.lt b hb, fun b hb => o2.lt b hb, fun b hb => hb.2⟩, hb⟩
theorem metric_eq (w : World) (v v' : Value) (x y : metric_T) (h : metric_R w w.heap.size v x) (h' : metric_R w w.heap.size v' y) (hs : metric_Sh x) : Calls Try.prog 9 #[v, v'] w (Re w (.bool (x == y))) := by
  obtain ⟨A, n, c, D, m, e, rfl, h1, h2, h3⟩ := h
  obtain ⟨A', n', c', D', m', e', rfl, k1, k2, k3⟩ := h'
  have hs' : x.1.length + x.2.2.length ≤ 1048576 := hs
  have l1 := h1.len
  have l2 := h2.len
  exact eqMetric_any w _ _ _ _ _ _ _ _ _ _ _ _ _ _ _ _ _ _ _ h1 h2 k1 k2 (Nat.le_refl _) (by omega) (by omega)
theorem metric_mark (w : World) (v : Value) (x : metric_T) (fp : Nat → Prop) (q : Int) (h : metric_E w v x fp) (hn : metric_tot x ≤ 1048576) (hq0 : 0 ≤ q) (hq1 : q ≤ 50000000) : Calls Try.prog 10 #[v, .int .i64 q] w (MrkE metric_E metric_mk metric_sum w v x fp q) := by
  obtain ⟨h0, u1, u2, F1, F2, rfl, h1, h2, h3, h4, h5, h6⟩ := h
  have hn' : x.1.length + x.2.2.length ≤ 1048576 := hn
  have hap : Apart u1 u2 := fun b a c => h3 b (h1.fp_ b a) (h2.fp_ b c)
  refine (markMetric_any w 0 u1 u2 x.2.1 q x.1 x.2.2 h1.own h2.own hap (by omega) (by omega) hq0 (by omega)).mono fun e w' hh => ?_
  obtain ⟨g1, g2, g3, g4, g5, g6, g7, g8⟩ := hh
  refine ⟨by rw [g1]; unfold metric_sum metric_tot; rw [Int.natCast_add, ← Int.add_assoc], ⟨h0, u1, u2, F1, F2, rfl, ⟨by simpa [metric_mk, mark1] using g2, ?_, h1.fp_, fun b hb => Nat.lt_of_lt_of_le (h1.bd b hb) g7⟩, ⟨by simpa [metric_mk, mark1] using g3, ?_, h2.fp_, fun b hb => Nat.lt_of_lt_of_le (h2.bd b hb) g7⟩, h3, h4, h5, fun b hb => Nat.lt_of_lt_of_le (h6 b hb) g7⟩, ⟨g4, g5, g6, g7, fun b hb hn => g8 b hb (fun e => hn (h4 b (h1.fp_ b e))) (fun e => hn (h5 b (h2.fp_ b e)))⟩⟩
  · unfold metric_mk mark1; exact marks_rng _ _ hq0 (by omega) (by omega)
  · unfold metric_mk mark1; exact marks_rng _ _ (by omega) (by omega) (by omega)
end Go.Proofs.Ytlhfjfpgoaiijaa
