
/- The kind of a cocycle: a struct of orders, a modulus and a cube. -/
import Derived.Test.YtnhgflmmfppmnaaKD0
import Derived.Test.YtnhgflmmfppmnaaNW2
import Derived.Test.YtnhgflmmfppmnaaOpN
namespace Go.Proofs.Ytnhgflmmfppmnaa
open Go Go.RowKit
set_option linter.unusedSimpArgs false
set_option linter.unusedVariables false
set_option maxRecDepth 100000
abbrev cocycle_T := List Int × Int × List (List (List Int))
def cocycle_R (w : World) (B : Nat) (v : Value) (x : cocycle_T) : Prop := ∃ A n c D m e, v = .agg #[.slice A n c, .int .i64 x.2.1, .slice D m e] ∧ Sl w B A n c x.1 ∧ Sl3 w B D m e x.2.2 ∧ i64ok x.2.1
def cocycle_E : Own cocycle_T := fun w v x fp => i64ok x.2.1 ∧ ∃ u1 u2 F1 F2, v = .agg #[u1, .int .i64 x.2.1, u2] ∧ E1 w u1 x.1 F1 ∧ E3 w u2 x.2.2 F2 ∧ (∀ b, F1 b → F2 b → False) ∧ (∀ b, F1 b → fp b) ∧ (∀ b, F2 b → fp b) ∧ (∀ b, fp b → b < w.heap.size)
def cocycle_Big (x : cocycle_T) : Prop := x.1.length ≤ 9223372036854775807 ∧ Big3 x.2.2
def cocycle_Sh (x : cocycle_T) : Prop := x.1.length + tot3 x.2.2 ≤ 1048576
def cocycle_tot (x : cocycle_T) : Nat := x.1.length + tot3 x.2.2
def cocycle_sum (x : cocycle_T) : Nat := x.1.length + sum3 x.2.2
def cocycle_mk (q : Int) (x : cocycle_T) : cocycle_T := (mark1 q x.1, x.2.1, mark3 (q + x.1.length) x.2.2)
def cocycle_held (q : Int) (x : cocycle_T) : Int := if heldI q x.1 < 0 then -1 else held3 (heldI q x.1) x.2.2
theorem sh3_of {t : List (List (List Int))} (h : tot3 t ≤ 1048576) : t.length ≤ 1048576 ∧ ∀ xs ∈ t, xs.length ≤ 1048576 ∧ ∀ ys ∈ xs, ys.length ≤ 1048576 := by
  unfold tot3 at h
  refine ⟨by unfold totL at h; omega, fun xs hx => ?_⟩
  have h1 := totL_mem (f := tot2) hx
  have h2 : totL List.length xs ≤ 1048576 := Nat.le_trans h1 h
  refine ⟨by unfold totL at h2; omega, fun ys hy => ?_⟩
  have h3 := totL_mem (f := List.length) hy
  omega
theorem E3.wr' {w w' : World} {v : Value} {t : List (List (List Int))} {fp fq : Nat → Prop} (h : E3 w v t fp) (hw : Wr w w' fq) (hd : ∀ b, fp b → fq b → False) : E3 w' v t fp := kp3 _ _ _ _ _ h (fun b hb => hw.block b (OwL.bd h b hb) (hd b hb)) hw.size
theorem E1.wr' {w w' : World} {v : Value} {t : List Int} {fp fq : Nat → Prop} (h : E1 w v t fp) (hw : Wr w w' fq) (hd : ∀ b, fp b → fq b → False) : E1 w' v t fp := kp1 _ _ _ _ _ h (fun b hb => hw.block b (h.bd b hb) (hd b hb)) hw.size
section
variable {w w' : World} {B B' : Nat} {v : Value} {x : cocycle_T} {fp fq : Nat → Prop}
theorem cocycle_form (h : cocycle_R w B v x) : ∃ A n c z D m e, v = .agg #[.slice A n c, .int .i64 z, .slice D m e] ∧ x.2.1 = z := by
  obtain ⟨A, n, c, D, m, e, h1, _⟩ := h
  exact ⟨A, n, c, _, D, m, e, h1, rfl⟩
theorem cocycle_keep (h : cocycle_R w B v x) (hb : Below B w w') (hB : B ≤ B') : cocycle_R w' B' v x := by
  obtain ⟨A, n, c, D, m, e, h1, h2, h3, h4⟩ := h
  exact ⟨A, n, c, D, m, e, h1, (h2.below hb).more hB, (h3.below hb).more hB, h4⟩
theorem cocycle_rd (h : cocycle_E w v x fp) : cocycle_R w w.heap.size v x := by
  obtain ⟨h0, u1, u2, F1, F2, rfl, h1, h2, _⟩ := h
  obtain ⟨A, c, rfl, hs⟩ := h1.sl
  obtain ⟨D, e, rfl, hs'⟩ := E3.sl3 h2
  exact ⟨A, _, c, D, _, e, rfl, hs, hs', h0⟩
theorem cocycle_kp : Kp cocycle_E := by
  intro w w' v x fp h hk hs
  obtain ⟨h0, u1, u2, F1, F2, e, h1, h2, h3, h4, h5, h6⟩ := h
  exact ⟨h0, u1, u2, F1, F2, e, kp1 _ _ _ _ _ h1 (fun b hb => hk b (h4 b hb)) hs, kp3 _ _ _ _ _ h2 (fun b hb => hk b (h5 b hb)) hs, h3, h4, h5, fun b hb => Nat.lt_of_lt_of_le (h6 b hb) hs⟩
theorem cocycle_bd (h : cocycle_E w v x fp) : ∀ b, fp b → b < w.heap.size := by
  obtain ⟨_, _, _, _, _, _, _, _, _, _, _, h6⟩ := h
  exact h6
theorem cocycle_below (h : cocycle_E w v x fp) (hb : Below w.heap.size w w') : cocycle_E w' v x fp := cocycle_kp _ _ _ _ _ h (fun b hf => hb.block b (cocycle_bd h b hf)) hb.size
theorem cocycle_wr (h : cocycle_E w v x fp) (hw : Wr w w' fq) (hd : ∀ b, fp b → fq b → False) : cocycle_E w' v x fp := cocycle_kp _ _ _ _ _ h (fun b hb => hw.block b (cocycle_bd h b hb) (hd b hb)) hw.size
theorem cocycle_mono (h : cocycle_E w v x fp) (hf : ∀ b, fp b → fq b) (hb : ∀ b, fq b → b < w.heap.size) : cocycle_E w v x fq := by
  obtain ⟨h0, u1, u2, F1, F2, e, h1, h2, h3, h4, h5, h6⟩ := h
  exact ⟨h0, u1, u2, F1, F2, e, h1, h2, h3, fun b hb => hf b (h4 b hb), fun b hb => hf b (h5 b hb), hb⟩
theorem cocycle_sh (h : cocycle_tot x ≤ 1048576) : cocycle_Sh x := h
theorem cocycle_sumle (x : cocycle_T) : cocycle_sum x ≤ cocycle_tot x := by unfold cocycle_sum cocycle_tot; have := sum3_le_tot3 x.2.2; omega
theorem markL_tot {α : Type} {mk : Int → α → α} {f g : α → Nat} (h : ∀ q x, g (mk q x) = g x) (xs : List α) : ∀ q, totL g (markL mk f q xs) = totL g xs := by
  intro q
  unfold totL
  rw [markL_length]
  congr 1
  induction xs generalizing q with
  | nil => rfl
  | cons x r ih => simp only [markL, List.map_cons, List.sum_cons, h, ih]
theorem tot3_mark (q : Int) (t : List (List (List Int))) : tot3 (mark3 q t) = tot3 t := by
  refine markL_tot (fun q x => ?_) t q
  exact markL_tot (fun q x => by unfold mark1; rw [marks_length]) x q
theorem cocycle_shmk {q : Int} (h : cocycle_Sh x) : cocycle_Sh (cocycle_mk q x) := by
  unfold cocycle_Sh cocycle_mk mark1 at *
  rw [marks_length, tot3_mark]; exact h
theorem cocycle_heldmk1 : cocycle_held 1 (cocycle_mk 1 x) = 1 + (cocycle_sum x : Int) := by
  unfold cocycle_held cocycle_mk cocycle_sum
  simp only
  rw [heldI_mark1 1 x.1 (by omega), if_neg (by omega), held3_mark3 _ _ (by omega)]
  omega
end
end Go.Proofs.Ytnhgflmmfppmnaa
