
/- A cube of the call's own that is filled number by number. -/
import Derived.Test.YteobaodabjdcaaaNa
namespace Go.Proofs.Yteobaodabjdcaaa
open Go Go.RowKit
set_option linter.unusedVariables false

def pc (n : Nat) (f : Nat → Nat → Nat → Int) (x y z : Nat) : List (List (List Int)) := cub n fun x' y' z' => if x' < x ∨ (x' = x ∧ (y' < y ∨ (y' = y ∧ z' < z))) then f x' y' z' else 0
theorem cub_congr {n : Nat} {f g : Nat → Nat → Nat → Int} (h : ∀ x y z, x < n → y < n → z < n → f x y z = g x y z) : cub n f = cub n g := by
  unfold cub mat
  refine List.map_congr_left fun x hx => List.map_congr_left fun y hy => List.map_congr_left fun z hz => ?_
  exact h x y z (List.mem_range.1 hx) (List.mem_range.1 hy) (List.mem_range.1 hz)
theorem mat_congr {n : Nat} {f g : Nat → Nat → Int} (h : ∀ y z, y < n → z < n → f y z = g y z) : mat n f = mat n g := by
  unfold mat
  refine List.map_congr_left fun y hy => List.map_congr_left fun z hz => ?_
  exact h y z (List.mem_range.1 hy) (List.mem_range.1 hz)
variable {n x y z : Nat} {f : Nat → Nat → Nat → Int}
theorem pc_zero : pc n f 0 0 0 = List.replicate n (List.replicate n (List.replicate n 0)) := by
  have h : pc n f 0 0 0 = (List.range n).map fun x' => pm n (fun _ _ => 0) 0 0 := by
    unfold pc cub pm
    refine List.map_congr_left fun x hx => mat_congr fun y z _ _ => ?_
    simp
  rw [h, pm_zero]
  apply List.ext_getElem?
  intro k
  by_cases hk : k < n
  · simp [hk]
  · simp [hk]
theorem pc_all : pc n f n 0 0 = cub n f := cub_congr fun x y z hx _ _ => by simp [hx]
theorem pc_nextz : pc n f x y n = pc n f x (y + 1) 0 := cub_congr fun x' y' z' _ _ hz => by
  have : (x' < x ∨ (x' = x ∧ (y' < y ∨ (y' = y ∧ z' < n)))) = (x' < x ∨ (x' = x ∧ (y' < y + 1 ∨ (y' = y + 1 ∧ z' < 0)))) := by simp; omega
  simp only [this]
theorem pc_nexty : pc n f x n 0 = pc n f (x + 1) 0 0 := cub_congr fun x' y' z' _ hy _ => by
  have : (x' < x ∨ (x' = x ∧ (y' < n ∨ (y' = n ∧ z' < 0)))) = (x' < x + 1 ∨ (x' = x + 1 ∧ (y' < 0 ∨ (y' = 0 ∧ z' < 0)))) := by simp; omega
  simp only [this]
theorem pc_skip (h : f x y z = 0) : pc n f x y (z + 1) = pc n f x y z := cub_congr fun x' y' z' _ _ _ => by
  by_cases e : x' = x ∧ y' = y ∧ z' = z
  · obtain ⟨rfl, rfl, rfl⟩ := e
    rw [if_pos (by right; exact ⟨rfl, .inr ⟨rfl, by omega⟩⟩), if_neg (by omega), h]
  · have : (x' < x ∨ (x' = x ∧ (y' < y ∨ (y' = y ∧ z' < z + 1)))) = (x' < x ∨ (x' = x ∧ (y' < y ∨ (y' = y ∧ z' < z)))) := by simp; omega
    simp only [this]
theorem pc_skips {z0 : Nat} (h : ∀ z, z < z0 → f x y z = 0) : pc n f x y z0 = pc n f x y 0 := by
  induction z0 with
  | zero => rfl
  | succ z ih => rw [pc_skip (h z (by omega)), ih fun z' hz' => h z' (by omega)]
theorem pc_len : (pc n f x y z).length = n := by simp [pc, cub]
theorem pc_row (hx : x < n) : (pc n f x y z)[x]? = some (pm n (f x) y z) := by
  unfold pc cub
  simp only [List.getElem?_map, List.getElem?_range hx, Option.map_some]
  congr 1
  unfold pm
  refine mat_congr fun y' z' _ _ => ?_
  simp
theorem pc_set (hx : x < n) : (pc n f x y z).set x (pm n (f x) y (z + 1)) = pc n f x y (z + 1) := by
  apply List.ext_getElem?
  intro k
  rw [List.getElem?_set]
  by_cases hk : x = k
  · subst hk
    rw [if_pos rfl, pc_row hx, if_pos (by rw [pc_len]; exact hx)]
  · rw [if_neg hk]
    by_cases hkn : k < n
    · unfold pc cub
      simp only [List.getElem?_map, List.getElem?_range hkn, Option.map_some]
      congr 1
      refine mat_congr fun y' z' _ _ => ?_
      have : (k < x ∨ (k = x ∧ (y' < y ∨ (y' = y ∧ z' < z)))) = (k < x ∨ (k = x ∧ (y' < y ∨ (y' = y ∧ z' < z + 1)))) := by simp; omega
      simp only [this]
    · rw [List.getElem?_eq_none (by rw [pc_len]; omega), List.getElem?_eq_none (by rw [pc_len]; omega)]
theorem E3.store {w : World} {v : Value} {fp : Nat → Prop} (h : E3 w v (pc n f x y z) fp) (hx : x < n) (hy : y < n) (hz : z < n) (hv : i64ok (f x y z)) :
    ∃ g g1 g2 c c1 c2, v = .slice (some ⟨g, 0, none⟩) n c ∧ w.cell? ⟨g, x, none⟩ = some (.slice (some ⟨g1, 0, none⟩) n c1) ∧ w.cell? ⟨g1, y, none⟩ = some (.slice (some ⟨g2, 0, none⟩) n c2) ∧ (∃ u, w.cell? ⟨g2, z, none⟩ = some (.int .i64 u)) ∧ w.frozen? ⟨g2, z, none⟩ = false ∧ fp g2 ∧
      E3 (w.setCell ⟨g2, z, none⟩ (.int .i64 (f x y z))) v (pc n f x y (z + 1)) fp := by
  obtain ⟨A, c, e, hs⟩ := E3.sl3 h
  rw [pc_len] at e hs
  obtain ⟨u, fk, hu, he, hfk, hvk, hup⟩ := OwL.focus kp2 h (pc_row (f := f) (y := y) (z := z) hx)
  obtain ⟨g, rfl, hc⟩ := hu A n c e
  obtain ⟨g1, g2, c1, c2, e1, k1, k2, k3, k4, k5⟩ := E2.store (f := f x) he hy hz hv
  subst e1
  refine ⟨g, g1, g2, c, c1, c2, e, hc, k1, k2, k3, hfk _ k4, ?_⟩
  rw [← pc_set hx]
  exact hup _ _ ⟨rfl, rfl, rfl, by simp [World.setCell], fun b _ hn => Below.heap_setCell _ ⟨g2, z, none⟩ _ b (fun e => hn (by have e' : b = g2 := e; rw [e']; exact k4))⟩ k5
theorem E3.later {w : World} {v : Value} {fp : Nat → Prop} (h : E3 w v (pc n f x y z) fp) (hx : x < n) (hy : y < n) (hz : z < n) (hv : i64ok (f x y z)) :
    ∃ g g1 g2 c c1 c2, v = .slice (some ⟨g, 0, none⟩) n c ∧ g < w.heap.size ∧ g1 < w.heap.size ∧ g2 < w.heap.size ∧ w.cell? ⟨g, x, none⟩ = some (.slice (some ⟨g1, 0, none⟩) n c1) ∧ w.cell? ⟨g1, y, none⟩ = some (.slice (some ⟨g2, 0, none⟩) n c2) ∧ (∃ u, w.cell? ⟨g2, z, none⟩ = some (.int .i64 u)) ∧ w.frozen? ⟨g2, z, none⟩ = false ∧ fp g2 ∧
      ∀ w', Below w.heap.size w w' → E3 (w'.setCell ⟨g2, z, none⟩ (.int .i64 (f x y z))) v (pc n f x y (z + 1)) fp := by
  obtain ⟨g, g1, g2, c, c1, c2, e, k0, k1, k2, k3, k4, k5⟩ := E3.store h hx hy hz hv
  have hg : g < w.heap.size := World.block_lt_of_cell? _ _ k0
  have hg1 : g1 < w.heap.size := World.block_lt_of_cell? _ _ k1
  have hg2 : g2 < w.heap.size := by obtain ⟨u, hu⟩ := k2; exact World.block_lt_of_cell? _ _ hu
  refine ⟨g, g1, g2, c, c1, c2, e, hg, hg1, hg2, k0, k1, k2, k3, k4, fun w' hb => ?_⟩
  obtain ⟨g', g1', g2', c', c1', c2', e', l0, l1, l2, l3, l4, l5⟩ := E3.store (E3.below h hb) hx hy hz hv
  rw [e] at e'
  injection e' with e1 _ _
  injection e1 with e1
  injection e1 with e1 _ _
  subst e1
  rw [(hb.cell (p := ⟨g, x, none⟩) hg).trans k0] at l0
  injection l0 with l0
  injection l0 with l0 _ _
  injection l0 with l0
  injection l0 with l0 _ _
  subst l0
  rw [(hb.cell (p := ⟨g1, y, none⟩) hg1).trans k1] at l1
  injection l1 with l1
  injection l1 with l1 _ _
  injection l1 with l1
  injection l1 with l1 _ _
  subst l1
  exact l5
end Go.Proofs.Yteobaodabjdcaaa
