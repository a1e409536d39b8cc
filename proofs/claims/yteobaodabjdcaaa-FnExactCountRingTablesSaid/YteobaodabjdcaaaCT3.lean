
/- A store of any number into a cube of the call's own, told by functions: cub n f becomes cub n (upd f x y z u). -/
import Derived.Test.YteobaodabjdcaaaNG3
import Derived.Test.YteobaodabjdcaaaCT1
namespace Go.Proofs.Yteobaodabjdcaaa
open Go Go.RowKit
set_option linter.unusedVariables false
def upd2 (f : Nat → Nat → Int) (j k : Nat) (v : Int) : Nat → Nat → Int := fun b c => if b = j ∧ c = k then v else f b c
variable {n x y z : Nat}
theorem mat_len (n : Nat) (f : Nat → Nat → Int) : (mat n f).length = n := by simp [mat]
theorem cb_len (n : Nat) (f : F3) : (cub n f).length = n := by simp [cub]
theorem mat_row {f : Nat → Nat → Int} (hy : y < n) : (mat n f)[y]? = some ((List.range n).map (f y)) := by
  unfold mat
  simp only [List.getElem?_map, List.getElem?_range hy, Option.map_some]
theorem cub_row {f : F3} (hx : x < n) : (cub n f)[x]? = some (mat n (f x)) := by
  unfold cub
  simp only [List.getElem?_map, List.getElem?_range hx, Option.map_some]
theorem row_put {g : Nat → Int} {u : Int} : ((List.range n).map g).set z u = (List.range n).map fun c => if c = z then u else g c := by
  apply List.ext_getElem?
  intro k
  rw [List.getElem?_set]
  by_cases hk : z = k
  · subst hk
    by_cases hz : z < n
    · simp [hz]
    · simp [hz]
  · rw [if_neg hk]
    by_cases hkn : k < n
    · simp [hkn, show ¬ k = z from fun h => hk h.symm]
    · simp [hkn]
theorem mat_put {f : Nat → Nat → Int} {u : Int} (hy : y < n) : (mat n f).set y (((List.range n).map (f y)).set z u) = mat n (upd2 f y z u) := by
  rw [row_put]
  apply List.ext_getElem?
  intro k
  rw [List.getElem?_set]
  by_cases hk : y = k
  · subst hk
    rw [if_pos rfl, mat_row hy, if_pos (by rw [mat_len]; exact hy)]
    simp [upd2]
  · rw [if_neg hk]
    by_cases hkn : k < n
    · rw [mat_row hkn, mat_row hkn]
      simp [upd2, show ¬ k = y from fun h => hk h.symm]
    · rw [List.getElem?_eq_none (by rw [mat_len]; omega), List.getElem?_eq_none (by rw [mat_len]; omega)]
theorem cub_put {f : F3} {u : Int} (hx : x < n) : (cub n f).set x (mat n (upd2 (f x) y z u)) = cub n (upd f x y z u) := by
  apply List.ext_getElem?
  intro k
  rw [List.getElem?_set]
  by_cases hk : x = k
  · subst hk
    rw [if_pos rfl, cub_row hx, if_pos (by rw [cb_len]; exact hx)]
    congr 1
    exact mat_congr fun y' z' _ _ => by simp [upd, upd2]
  · rw [if_neg hk]
    by_cases hkn : k < n
    · rw [cub_row hkn, cub_row hkn]
      congr 1
      exact mat_congr fun y' z' _ _ => by simp [upd, show ¬ k = x from fun h => hk h.symm]
    · rw [List.getElem?_eq_none (by rw [cb_len]; omega), List.getElem?_eq_none (by rw [cb_len]; omega)]
theorem E2.put {w : World} {v : Value} {f : Nat → Nat → Int} {fp : Nat → Prop} {r : Int} (h : E2 w v (mat n f) fp) (hy : y < n) (hz : z < n) (hr : i64ok r) :
    ∃ g g2 c c2, v = .slice (some ⟨g, 0, none⟩) n c ∧ w.cell? ⟨g, y, none⟩ = some (.slice (some ⟨g2, 0, none⟩) n c2) ∧ (∃ u, w.cell? ⟨g2, z, none⟩ = some (.int .i64 u)) ∧ w.frozen? ⟨g2, z, none⟩ = false ∧ fp g2 ∧
      E2 (w.setCell ⟨g2, z, none⟩ (.int .i64 r)) v (mat n (upd2 f y z r)) fp := by
  obtain ⟨A, c, e, hs⟩ := E2.sl2 h
  rw [mat_len] at e hs
  obtain ⟨u, fk, hu, he, hfk, hvk, hup⟩ := OwL.focus kp1 h (mat_row hy)
  obtain ⟨g, rfl, hc⟩ := hu A n c e
  rcases he.own.form with ⟨_, h0⟩ | ⟨g2, cap, e2, _, hg2, _⟩
  · have := congrArg List.length h0; simp at this; omega
  · rw [List.length_map, List.length_range] at e2
    subst e2
    have hl : n = ((List.range n).map (f y)).length := by simp
    have o1 := he.own.cell hl hz
    have o2 := he.own.frozen hl z
    have o3 := he.own.store hl z r
    refine ⟨g, g2, c, cap, e, hc, ⟨_, o1⟩, o2, hfk _ (he.fp_ g2 rfl), ?_⟩
    rw [← mat_put hy]
    refine hup _ _ ⟨rfl, rfl, rfl, by simp [World.setCell], fun b _ hn => Below.heap_setCell _ _ _ _ (by simp; rintro rfl; exact hn (he.fp_ _ rfl))⟩ ⟨o3, ?_, he.fp_, fun b hb => by have := he.bd b hb; simpa [World.setCell] using this⟩
    intro x hxm
    rcases List.mem_or_eq_of_mem_set hxm with h | rfl
    · exact he.rng x h
    · exact hr
theorem E3.put {w : World} {v : Value} {f : F3} {fp : Nat → Prop} {r : Int} (h : E3 w v (cub n f) fp) (hx : x < n) (hy : y < n) (hz : z < n) (hr : i64ok r) :
    ∃ g g1 g2 c c1 c2, v = .slice (some ⟨g, 0, none⟩) n c ∧ w.cell? ⟨g, x, none⟩ = some (.slice (some ⟨g1, 0, none⟩) n c1) ∧ w.cell? ⟨g1, y, none⟩ = some (.slice (some ⟨g2, 0, none⟩) n c2) ∧ (∃ u, w.cell? ⟨g2, z, none⟩ = some (.int .i64 u)) ∧ w.frozen? ⟨g2, z, none⟩ = false ∧ fp g2 ∧
      E3 (w.setCell ⟨g2, z, none⟩ (.int .i64 r)) v (cub n (upd f x y z r)) fp := by
  obtain ⟨A, c, e, hs⟩ := E3.sl3 h
  rw [cb_len] at e hs
  obtain ⟨u, fk, hu, he, hfk, hvk, hup⟩ := OwL.focus kp2 h (cub_row hx)
  obtain ⟨g, rfl, hc⟩ := hu A n c e
  obtain ⟨g1, g2, c1, c2, e1, k1, k2, k3, k4, k5⟩ := E2.put he hy hz hr
  subst e1
  refine ⟨g, g1, g2, c, c1, c2, e, hc, k1, k2, k3, hfk _ k4, ?_⟩
  rw [← cub_put hx]
  exact hup _ _ ⟨rfl, rfl, rfl, by simp [World.setCell], fun b _ hn => Below.heap_setCell _ ⟨g2, z, none⟩ _ b (fun e => hn (by have e' : b = g2 := e; rw [e']; exact k4))⟩ k5
end Go.Proofs.Yteobaodabjdcaaa
