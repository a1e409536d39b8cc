
/- Isometries, plain: images of elements, what makes an isometry, the list of all isometries in order. -/
import Derived.Test.YtkekgipeagchcaaO1
import Derived.Test.YtkekgipeagchcaaTU
import Derived.Test.YtkekgipeagchcaaEa
namespace Go.Proofs.Ytkekgipeagchcaa
open Go Go.RowKit Grp
set_option linter.unusedSimpArgs false
set_option linter.unusedVariables false
/-- k times an element, put to another. -/
def addT (ps : List Int) (y : Int) : Nat → Int → Int
  | 0, o => o
  | k + 1, o => Ar ps (addT ps y k o) y
/-- The image of a tuple. -/
def imT (ps : List Int) (tu im : List Int) : Nat → Int
  | 0 => 0
  | i + 1 => addT ps (gi im i) (gi tu i).toNat (imT ps tu im i)
/-- The image of an element. -/
def imF (os ps im : List Int) (x : Int) : Int := imT ps (Dg os x) im os.length
theorem addT_rng {ps : List Int} (hG : OkG ps) (y : Int) : ∀ k {o : Int}, 0 ≤ o → o < prodL ps → 0 ≤ addT ps y k o ∧ addT ps y k o < prodL ps := by
  intro k
  induction k with
  | zero => intro o h0 h1; exact ⟨h0, h1⟩
  | succ k ih => intro o h0 h1; exact Ar_rng hG _ _
theorem imT_rng {ps : List Int} (hG : OkG ps) (tu im : List Int) : ∀ i, 0 ≤ imT ps tu im i ∧ imT ps tu im i < prodL ps := by
  intro i
  induction i with
  | zero => exact ⟨Int.le_refl _, by have := prodL_pos hG.pos; show (0 : Int) < _; omega⟩
  | succ i ih => exact addT_rng hG _ _ ih.1 ih.2
theorem imF_rng {os ps : List Int} (hG : OkG ps) (im : List Int) (x : Int) : 0 ≤ imF os ps im x ∧ imF os ps im x < prodL ps := imT_rng hG _ _ _
/-- Values alike, with moduli D and E. -/
def alB (D E a b : Int) : Bool := a * E == b * D
/-- Two metrics. -/
structure Two where
  os : List Int
  D : Int
  vs : List Int
  ps : List Int
  E : Int
  us : List Int
namespace Two
variable (T : Two)
def N : Nat := T.us.length
def im (pre : List Int) (x : Nat) : Int := imF T.os T.ps pre x
def al (x y : Int) : Bool := alB T.D T.E (gi T.vs x.toNat) (gi T.us y.toNat)
/-- The images of the first elements. -/
def ims (pre : List Int) (k : Nat) : List Int := (List.range k).map fun x => T.im pre x
/-- The first k elements go well. -/
def goes (pre : List Int) (k : Nat) : Bool := (List.range k).all fun x => T.al x (T.im pre x) && !hasB (T.ims pre x) (T.im pre x)
/-- An isometry. -/
def iso (pre : List Int) : Bool := T.goes pre T.N
/-- The generator of a place. -/
def gen (i : Nat) : Int := prodL (T.os.drop (i + 1))
/-- May y be the image of the generator i? -/
noncomputable def cand (i : Nat) (y : Nat) : Bool := decide (ordN T.ps y = gi T.os i) && T.al (T.gen i) y
/-- The isometries that begin with a list, k images more to come. -/
noncomputable def isos : Nat → List Int → List (List Int)
  | 0, pre => if T.iso pre = true then [pre] else []
  | k + 1, pre => ((List.range T.N).filter fun y => T.cand (T.os.length - (k + 1)) y).flatMap fun (y : Nat) => isos k (pre ++ [(y : Int)])
/-- Of those with a further image below j. -/
noncomputable def part (k : Nat) (pre : List Int) (j : Nat) : List (List Int) := ((List.range j).filter fun y => T.cand (T.os.length - (k + 1)) y).flatMap fun (y : Nat) => T.isos k (pre ++ [(y : Int)])
theorem isos_part (k : Nat) (pre : List Int) : T.isos (k + 1) pre = T.part k pre T.N := rfl
theorem part_zero (k : Nat) (pre : List Int) : T.part k pre 0 = [] := rfl
theorem part_no {k j : Nat} {pre : List Int} (h : T.cand (T.os.length - (k + 1)) j = false) : T.part k pre (j + 1) = T.part k pre j := by
  unfold part
  rw [List.range_succ, List.filter_append]
  simp [h]
theorem part_yes {k j : Nat} {pre : List Int} (h : T.cand (T.os.length - (k + 1)) j = true) : T.part k pre (j + 1) = T.part k pre j ++ T.isos k (pre ++ [(j : Int)]) := by
  unfold part
  rw [List.range_succ, List.filter_append, List.flatMap_append]
  simp [h]
theorem goes_succ (pre : List Int) (k : Nat) : T.goes pre (k + 1) = (T.goes pre k && (T.al k (T.im pre k) && !hasB (T.ims pre k) (T.im pre k))) := by
  unfold goes
  rw [List.range_succ, List.all_append]
  simp
theorem goes_no {pre : List Int} {j k : Nat} (hj : j < k) (h : (T.al j (T.im pre j) && !hasB (T.ims pre j) (T.im pre j)) = false) : T.goes pre k = false := by
  refine Bool.eq_false_iff.2 fun ha => ?_
  have := List.all_eq_true.1 ha j (List.mem_range.2 hj)
  rw [h] at this; cases this
theorem ims_succ (pre : List Int) (k : Nat) : T.ims pre (k + 1) = T.ims pre k ++ [T.im pre k] := by
  unfold ims; rw [List.range_succ, List.map_append]; rfl
theorem ims_len (pre : List Int) (k : Nat) : (T.ims pre k).length = k := by simp [ims]
theorem ims_at {pre : List Int} {j k : Nat} (h : j < k) : gi (T.ims pre k) j = T.im pre j := by
  unfold gi ims; rw [List.getD_eq_getElem?_getD, List.getElem?_map, List.getElem?_range h]; rfl
theorem ims_take {pre : List Int} {j k : Nat} (h : j ≤ k) : (T.ims pre k).take j = T.ims pre j := by
  unfold ims; rw [← List.map_take, List.take_range, Nat.min_eq_left h]
/-- The list of all. -/
noncomputable def all : List (List Int) := if T.vs.length = T.us.length then T.isos T.os.length [] else []
theorem isos_len : ∀ k pre, pre.length + k = T.os.length → ∀ x ∈ T.isos k pre, x.length = T.os.length := by
  intro k
  induction k with
  | zero =>
    intro pre h x hx
    unfold isos at hx
    split at hx
    · rw [List.mem_singleton.1 hx]; omega
    · cases hx
  | succ k ih =>
    intro pre h x hx
    unfold isos at hx
    obtain ⟨y, -, hx⟩ := List.mem_flatMap.1 hx
    exact ih (pre ++ [(y : Int)]) (by simp; omega) x hx
theorem flat_le {β : Type} (c : Nat) (f : Nat → List β) : ∀ l : List Nat, (∀ y ∈ l, (f y).length ≤ c) → (l.flatMap f).length ≤ l.length * c := by
  intro l
  induction l with
  | nil => intro _; simp
  | cons a r ih =>
    intro h
    have h1 := h a (by simp)
    have h2 := ih fun y hy => h y (by simp [hy])
    rw [List.flatMap_cons, List.length_append, List.length_cons, Nat.succ_mul]
    omega
theorem isos_many (hN : T.N ≤ 16) : ∀ k pre, (T.isos k pre).length ≤ 16 ^ k := by
  intro k
  induction k with
  | zero => intro pre; unfold isos; split <;> simp
  | succ k ih =>
    intro pre
    unfold isos
    refine Nat.le_trans (flat_le (16 ^ k) _ _ fun y _ => ih _) ?_
    rw [Nat.pow_succ, Nat.mul_comm]
    refine Nat.mul_le_mul_left _ (Nat.le_trans (List.length_filter_le _ _) ?_)
    simpa using hN
theorem part_many (hN : T.N ≤ 16) (k : Nat) (pre : List Int) {j : Nat} (hj : j ≤ T.N) : (T.part k pre j).length ≤ 16 ^ (k + 1) := by
  unfold part
  refine Nat.le_trans (flat_le (16 ^ k) _ _ fun y _ => isos_many T hN k _) ?_
  rw [Nat.pow_succ, Nat.mul_comm]
  refine Nat.mul_le_mul_left _ (Nat.le_trans (List.length_filter_le _ _) ?_)
  simp; omega
end Two
/-- The program's values: with D c = E d = q. -/
theorem al_prog {D E c d a b q : Int} (hq : 0 < q) (h1 : D * c = q) (h2 : E * d = q) : (a * c == b * d) = (a * E == b * D) := by
  have hD : D ≠ 0 := fun h => by rw [h] at h1; omega
  have hE : E ≠ 0 := fun h => by rw [h] at h2; omega
  have hc : c ≠ 0 := fun h => by rw [h] at h1; omega
  have hd : d ≠ 0 := fun h => by rw [h] at h2; omega
  have e1 : a * E * (c * d) = a * c * q := by rw [← h2]; grind
  have e2 : b * D * (c * d) = b * d * q := by rw [← h1]; grind
  rw [Bool.eq_iff_iff, beq_iff_eq, beq_iff_eq]
  constructor
  · intro h
    have : a * E * (c * d) = b * D * (c * d) := by rw [e1, e2, h]
    exact Int.eq_of_mul_eq_mul_right (Int.mul_ne_zero hc hd) this
  · intro h
    have : a * c * q = b * d * q := by rw [← e1, ← e2, h]
    exact Int.eq_of_mul_eq_mul_right (by omega) this
end Go.Proofs.Ytkekgipeagchcaa
