
/- The walk of l07All: the tables that all duals tell are filled; how many rings result. -/
import Derived.Test.YteobaodabjdcaaaCG1
import Derived.Test.YteobaodabjdcaaaCG2
namespace Go.Proofs.Yteobaodabjdcaaa
open Go Go.RowKit
set_option linter.unusedSimpArgs false
set_option linter.unusedVariables false
set_option maxRecDepth 100000
/-! ### plain -/
theorem E3.put_later {w : World} {v : Value} {n x y z : Nat} {f : F3} {fp : Nat → Prop} {r : Int} (h : E3 w v (cub n f) fp) (hx : x < n) (hy : y < n) (hz : z < n) (hr : i64ok r) :
    ∃ g g1 g2 c c1 c2, v = .slice (some ⟨g, 0, none⟩) n c ∧ g < w.heap.size ∧ g1 < w.heap.size ∧ g2 < w.heap.size ∧ w.cell? ⟨g, x, none⟩ = some (.slice (some ⟨g1, 0, none⟩) n c1) ∧ w.cell? ⟨g1, y, none⟩ = some (.slice (some ⟨g2, 0, none⟩) n c2) ∧ (∃ u, w.cell? ⟨g2, z, none⟩ = some (.int .i64 u)) ∧ w.frozen? ⟨g2, z, none⟩ = false ∧ fp g2 ∧
      ∀ w', Below w.heap.size w w' → E3 (w'.setCell ⟨g2, z, none⟩ (.int .i64 r)) v (cub n (upd f x y z r)) fp := by
  obtain ⟨g, g1, g2, c, c1, c2, e, k0, k1, k2, k3, k4, k5⟩ := E3.put h hx hy hz hr
  have hg : g < w.heap.size := World.block_lt_of_cell? _ _ k0
  have hg1 : g1 < w.heap.size := World.block_lt_of_cell? _ _ k1
  have hg2 : g2 < w.heap.size := by obtain ⟨u, hu⟩ := k2; exact World.block_lt_of_cell? _ _ hu
  refine ⟨g, g1, g2, c, c1, c2, e, hg, hg1, hg2, k0, k1, k2, k3, k4, fun w' hb => ?_⟩
  obtain ⟨g', g1', g2', c', c1', c2', e', l0, l1, l2, l3, l4, l5⟩ := E3.put (E3.below h hb) hx hy hz hr
  rw [e] at e'
  injection e' with e1 _ _
  injection e1 with e1
  injection e1 with e1 _ _
  subst e1
  rw [(hb.cell (p := ⟨g, x, none⟩) hg).trans k0] at l0
  injection l0 with l0
  injection l0 with l0 _ _
  injection l0 with l0
  injection l0 with l0 _ _
  subst l0
  rw [(hb.cell (p := ⟨g1, y, none⟩) hg1).trans k1] at l1
  injection l1 with l1
  injection l1 with l1 _ _
  injection l1 with l1
  injection l1 with l1 _ _
  subst l1
  exact l5
/-- The table of duals, told for labels below k. -/
def bT (d : Nat → Nat) (k : Nat) : F3 := fun a b c => if (a = 0 ∧ b = c ∧ b < k) ∨ (b = 0 ∧ a = c ∧ a < k) ∨ (c = 0 ∧ b = d a ∧ a < k) then 1 else 0
theorem bT_zero (d : Nat → Nat) : bT d 0 = fun _ _ _ => 0 := by funext a b c; simp [bT]
theorem bT_step (d : Nat → Nat) (k : Nat) : upd (upd (upd (bT d k) 0 k k 1) k 0 k 1) k (d k) 0 1 = bT d (k + 1) := by
  funext a b c
  unfold upd bT
  by_cases h1 : a = k ∧ b = d k ∧ c = 0
  · obtain ⟨rfl, rfl, rfl⟩ := h1
    rw [if_pos ⟨rfl, rfl, rfl⟩, if_pos (.inr (.inr ⟨rfl, rfl, by omega⟩))]
  · rw [if_neg h1]
    by_cases h2 : a = k ∧ b = 0 ∧ c = k
    · obtain ⟨rfl, rfl, rfl⟩ := h2
      rw [if_pos ⟨rfl, rfl, rfl⟩, if_pos (.inr (.inl ⟨rfl, rfl, by omega⟩))]
    · rw [if_neg h2]
      by_cases h3 : a = 0 ∧ b = k ∧ c = k
      · obtain ⟨rfl, rfl, rfl⟩ := h3
        rw [if_pos ⟨rfl, rfl, rfl⟩, if_pos (.inl ⟨rfl, rfl, by omega⟩)]
      · rw [if_neg h3]
        by_cases h4 : (a = 0 ∧ b = c ∧ b < k) ∨ (b = 0 ∧ a = c ∧ a < k) ∨ (c = 0 ∧ b = d a ∧ a < k)
        · rw [if_pos h4, if_pos (by omega)]
        · rw [if_neg h4, if_neg]
          rintro (⟨e1, e2, e3⟩ | ⟨e1, e2, e3⟩ | ⟨e1, e2, e3⟩)
          · exact h4 (.inl ⟨e1, e2, by omega⟩)
          · exact h4 (.inr (.inl ⟨e1, e2, by omega⟩))
          · by_cases hk : a = k
            · exact h1 ⟨hk, by rw [e2, hk], e1⟩
            · exact h4 (.inr (.inr ⟨e1, e2, by omega⟩))
theorem bT_all {d : Nat → Nat} {n : Nat} (h0 : d 0 = 0) (hd : ∀ i, i < n → d (d i) = i) : cub n (bT d n) = cub n (baseT d) := cub_congr fun a b c ha hb hc => by
  unfold bT baseT
  by_cases h1 : a = 0
  · subst h1
    rw [if_pos rfl]
    by_cases h2 : b = c
    · rw [if_pos (.inl ⟨rfl, h2, hb⟩), if_pos h2]
    · rw [if_neg h2, if_neg]
      rintro (h | h | h)
      · exact h2 h.2.1
      · omega
      · rw [h0] at h; omega
  · rw [if_neg h1]
    by_cases h2 : b = 0
    · rw [if_pos h2]
      subst h2
      by_cases h3 : a = c
      · rw [if_pos (.inr (.inl ⟨rfl, h3, ha⟩)), if_pos h3]
      · rw [if_neg h3, if_neg]
        rintro (h | h | h)
        · omega
        · exact h3 h.2.1
        · have := hd a ha
          rw [← h.2.1, h0] at this
          exact h1 this.symm
    · rw [if_neg h2]
      by_cases h3 : c = 0
      · rw [if_pos h3]
        by_cases h4 : d a = b
        · rw [if_pos h4, if_pos (.inr (.inr ⟨h3, h4.symm, ha⟩))]
        · rw [if_neg h4, if_neg]
          rintro (h | h | h)
          · omega
          · omega
          · exact h4 h.2.1.symm
      · rw [if_neg h3, if_neg]
        omega
theorem rep_cub (n : Nat) : List.replicate n (List.replicate n (List.replicate n (0 : Int))) = cub n (fun _ _ _ => 0) := by
  have h : ∀ (α : Type) (x : α), (List.range n).map (fun _ => x) = List.replicate n x := fun α x => by simp [List.map_const']
  unfold cub mat
  rw [h, h, h]
theorem baseT_rng (d : Nat → Nat) : ∀ a b c, 0 ≤ baseT d a b c ∧ baseT d a b c ≤ 1000 := by
  intro a b c; unfold baseT; split <;> split <;> (try split) <;> (try split) <;> omega
theorem baseT_zero (d : Nat → Nat) (a b c : Nat) : baseT d (a + 1) (b + 1) (c + 1) = 0 := by simp [baseT]
/-- How many rings the first so many duals give. -/
def cntC (n m a : Nat) : Nat := if a = 0 then 0 else if a = 1 then growC n m ((n - 1) * (n - 1) * (n - 1)) 0 (baseT dI) else growC n m ((n - 1) * (n - 1) * (n - 1)) 0 (baseT dI) + growC n m ((n - 1) * (n - 1) * (n - 1)) 0 (baseT dS)
def ordL (n : Nat) : List (List Int) := ordF n (n - 1) [0]
theorem ordL_1 : ordL 1 = [[0]] := by decide
theorem ordL_2 : ordL 2 = [[0, 1]] := by decide
theorem ordL_3 : ordL 3 = [[0, 1, 2], [0, 2, 1]] := by decide
/-- What is told of one of the duals. -/
structure Dl (n m a : Nat) (xs : List Int) (d : Nat → Nat) : Prop where
  len : xs.length = n
  at_ : ∀ i, i < n → gi xs i = (d i : Int)
  lt : ∀ i, i < n → d i < n
  tw : ∀ i, i < n → d (d i) = i
  z : d 0 = 0
  du : ∀ i, i < n → 0 ≤ du (cub n (baseT d)) i
  cnt : cntC n m (a + 1) = cntC n m a + growC n m ((n - 1) * (n - 1) * (n - 1)) 0 (baseT d)
theorem dl_of {n m a : Nat} (h1 : 1 ≤ n) (h3 : n ≤ 3) (ha : a < (ordL n).length) : ∃ xs d, (ordL n)[a]? = some xs ∧ Dl n m a xs d := by
  have h : n = 1 ∨ n = 2 ∨ n = 3 := by omega
  rcases h with rfl | rfl | rfl
  · rw [ordL_1] at ha ⊢
    obtain rfl : a = 0 := by simp at ha; omega
    exact ⟨_, dI, rfl, rfl, by decide, by decide, by decide, rfl, by decide, by simp [cntC]⟩
  · rw [ordL_2] at ha ⊢
    obtain rfl : a = 0 := by simp at ha; omega
    exact ⟨_, dI, rfl, rfl, by decide, by decide, by decide, rfl, by decide, by simp [cntC]⟩
  · rw [ordL_3] at ha ⊢
    have h : a = 0 ∨ a = 1 := by simp at ha; omega
    rcases h with rfl | rfl
    · exact ⟨_, dI, rfl, rfl, by decide, by decide, by decide, rfl, by decide, by simp [cntC]⟩
    · exact ⟨_, dS, rfl, rfl, by decide, by decide, by decide, rfl, by decide, by simp [cntC]⟩
theorem cnt_all {n m : Nat} (h1 : 1 ≤ n) (h3 : n ≤ 3) : cntC n m (ordL n).length = ringsC n m := by
  have h : n = 1 ∨ n = 2 ∨ n = 3 := by omega
  rcases h with rfl | rfl | rfl
  · rw [ordL_1]; simp [cntC, ringsC]; exact grow1 m
  · rw [ordL_2]; simp [cntC, ringsC]; exact grow2 m
  · rw [ordL_3]; simp [cntC, ringsC]; rw [← growI, ← growS]
theorem cnt_le {n m a : Nat} (h3 : n ≤ 3) (hm : m ≤ 4) (ha : a ≤ 1) : cntC n m a + (m + 1) ^ ((n - 1) * (n - 1) * (n - 1)) ≤ 1000000 := by
  have h8 : (n - 1) * (n - 1) * (n - 1) ≤ 8 := by
    have h : n = 0 ∨ n = 1 ∨ n = 2 ∨ n = 3 := by omega
    rcases h with rfl | rfl | rfl | rfl <;> decide
  have hp : (m + 1) ^ ((n - 1) * (n - 1) * (n - 1)) ≤ 5 ^ 8 := Nat.le_trans (Nat.pow_le_pow_left (by omega) _) (Nat.pow_le_pow_right (by omega) h8)
  have hc : cntC n m a ≤ 5 ^ 8 := by
    unfold cntC
    split
    · exact Nat.zero_le _
    · rw [if_pos (by omega)]; exact Nat.le_trans (growC_le _ _ _ _ _) hp
  omega
theorem ordL_le {n : Nat} (h1 : 1 ≤ n) (h3 : n ≤ 3) : (ordL n).length ≤ 2 := by
  have h : n = 1 ∨ n = 2 ∨ n = 3 := by omega
  rcases h with rfl | rfl | rfl <;> decide
end Go.Proofs.Yteobaodabjdcaaa
