
/- Counting ring tables, plainly: the reference's growth with its pruning, the program's filling of orbits; sums. -/
import Derived.Test.YteobaodabjdcaaaRG
import Derived.Test.YteobaodabjdcaaaNa
namespace Go.Proofs.Yteobaodabjdcaaa
open Go Go.RowKit
set_option linter.unusedVariables false
abbrev F3 := Nat → Nat → Nat → Int
def sumN (f : Nat → Nat) : Nat → Nat
  | 0 => 0
  | k + 1 => sumN f k + f k
theorem sumN_congr {f g : Nat → Nat} : ∀ {k : Nat}, (∀ v, v < k → f v = g v) → sumN f k = sumN g k
  | 0, _ => rfl
  | k + 1, h => by
    unfold sumN
    rw [sumN_congr (k := k) fun v hv => h v (by omega), h k (by omega)]
theorem sumN_zero {f : Nat → Nat} : ∀ {k : Nat}, (∀ v, v < k → f v = 0) → sumN f k = 0
  | 0, _ => rfl
  | k + 1, h => by
    unfold sumN
    rw [sumN_zero (k := k) fun v hv => h v (by omega), h k (by omega)]
theorem sumN_one {f : Nat → Nat} : ∀ {k u : Nat}, u < k → (∀ v, v < k → v ≠ u → f v = 0) → sumN f k = f u
  | k + 1, u, hu, h => by
    unfold sumN
    by_cases e : u = k
    · subst e
      rw [sumN_zero fun v hv => h v (by omega) (by omega)]
      omega
    · rw [sumN_one (k := k) (u := u) (by omega) fun v hv hne => h v (by omega) hne, h k (by omega) (by omega)]
      rfl
def upd (f : F3) (i j k : Nat) (v : Int) : F3 := fun a b c => if a = i ∧ b = j ∧ c = k then v else f a b c
/-- 1 where the table is a ring's. -/
def okR3 (n : Nat) (f : F3) : Nat := if (flt (cub n f)).isNone = true then 1 else 0
/-- What l07Fits tells. -/
def fitB (n : Nat) (f : F3) (i j k : Nat) : Bool := decide ((i : Int) < du (cub n f) i) || (decide (du (cub n f) i = i) && decide (j < k)) || decide (f i j k = f (du (cub n f) i).toNat k j)
/-- What l07Grow counts: r places are left, the next is p. -/
def growC (n m : Nat) : Nat → Nat → F3 → Nat
  | 0, _, f => okR3 n f
  | r + 1, p, f => sumN (fun v => if fitB n (upd f (p / ((n - 1) * (n - 1)) + 1) (p / (n - 1) % (n - 1) + 1) (p % (n - 1) + 1) v) (p / ((n - 1) * (n - 1)) + 1) (p / (n - 1) % (n - 1) + 1) (p % (n - 1) + 1) = true then growC n m r (p + 1) (upd f (p / ((n - 1) * (n - 1)) + 1) (p / (n - 1) % (n - 1) + 1) (p % (n - 1) + 1) v) else 0) (m + 1)
/-- What fill counts. -/
def fillC (n m : Nat) : List (List (Nat × Nat × Nat)) → F3 → Nat
  | [], f => okR3 n f
  | o :: os, f => sumN (fun v => fillC n m os (o.foldl (fun g t => upd g t.1 t.2.1 t.2.2 (v : Int)) f)) (m + 1)
/-- The table that duals tell. -/
def baseT (d : Nat → Nat) : F3 := fun i j k => if i = 0 then (if j = k then 1 else 0) else if j = 0 then (if i = k then 1 else 0) else if k = 0 then (if d i = j then 1 else 0) else 0
theorem turn_eq {t : Tb} (h : flt t = none) {i j k : Nat} (hi : i < t.length) (hj : j < t.length) (hk : k < t.length) :
    t3 t i j k = t3 t (du t i).toNat k j ∧ t3 t i j k = t3 t k (du t j).toNat i := by
  unfold flt at h
  split at h
  · cases h
  · split at h
    · cases h
    · split at h
      · cases h
      · rename_i h3
        have := fs_none (fs_none (fs_none h3 hi) hj) hk
        unfold turnAt at this
        split at this
        · cases this
        · rename_i h4
          omega
def dI (i : Nat) : Nat := i
def dS (i : Nat) : Nat := if i = 1 then 2 else if i = 2 then 1 else i
/-- The table of three labels, written out. -/
def tb3 (p q r s x0 x1 x2 x3 x4 x5 x6 x7 : Int) : Tb :=
  [[[1, 0, 0], [0, 1, 0], [0, 0, 1]], [[0, 1, 0], [p, x0, x1], [q, x2, x3]], [[0, 0, 1], [r, x4, x5], [s, x6, x7]]]
def ok3 (p q r s x0 x1 x2 x3 x4 x5 x6 x7 : Int) : Nat := if (flt (tb3 p q r s x0 x1 x2 x3 x4 x5 x6 x7)).isNone = true then 1 else 0
theorem ok3_I {x0 x1 x2 x3 x4 x5 x6 x7 : Int} (h : ¬ (x1 = x2 ∧ x1 = x4 ∧ x3 = x6 ∧ x5 = x6)) : ok3 1 0 0 1 x0 x1 x2 x3 x4 x5 x6 x7 = 0 := by
  unfold ok3
  split
  · rename_i hf
    exfalso
    have hf : flt (tb3 1 0 0 1 x0 x1 x2 x3 x4 x5 x6 x7) = none := by simpa using hf
    have a : x1 = x2 ∧ x1 = x4 := turn_eq hf (i := 1) (j := 1) (k := 2) (show 1 < 3 by decide) (show 1 < 3 by decide) (show 2 < 3 by decide)
    have b : x3 = x3 ∧ x3 = x6 := turn_eq hf (i := 1) (j := 2) (k := 2) (show 1 < 3 by decide) (show 2 < 3 by decide) (show 2 < 3 by decide)
    have c : x5 = x6 ∧ x5 = x5 := turn_eq hf (i := 2) (j := 1) (k := 2) (show 2 < 3 by decide) (show 1 < 3 by decide) (show 2 < 3 by decide)
    exact h ⟨a.1, a.2, b.2, c.1⟩
  · rfl
theorem ok3_S {x0 x1 x2 x3 x4 x5 x6 x7 : Int} (h : ¬ (x0 = x4 ∧ x0 = x2 ∧ x0 = x3 ∧ x0 = x5 ∧ x0 = x7 ∧ x1 = x6)) : ok3 0 1 1 0 x0 x1 x2 x3 x4 x5 x6 x7 = 0 := by
  unfold ok3
  split
  · rename_i hf
    exfalso
    have hf : flt (tb3 0 1 1 0 x0 x1 x2 x3 x4 x5 x6 x7) = none := by simpa using hf
    have a : x0 = x4 ∧ x0 = x2 := turn_eq hf (i := 1) (j := 1) (k := 1) (show 1 < 3 by decide) (show 1 < 3 by decide) (show 1 < 3 by decide)
    have b : x3 = x7 ∧ x3 = x4 := turn_eq hf (i := 1) (j := 2) (k := 2) (show 1 < 3 by decide) (show 2 < 3 by decide) (show 2 < 3 by decide)
    have c : x5 = x2 ∧ x5 = x7 := turn_eq hf (i := 2) (j := 1) (k := 2) (show 2 < 3 by decide) (show 1 < 3 by decide) (show 2 < 3 by decide)
    have d : x1 = x6 ∧ x1 = x6 := turn_eq hf (i := 1) (j := 1) (k := 2) (show 1 < 3 by decide) (show 1 < 3 by decide) (show 2 < 3 by decide)
    exact h ⟨a.1, a.2, by omega, by omega, by omega, d.1⟩
  · rfl
/-- The sum over all eight numbers. -/
def allC (m : Nat) (p q r s : Int) : Nat → List Nat → Nat
  | 0, [x7, x6, x5, x4, x3, x2, x1, x0] => ok3 p q r s x0 x1 x2 x3 x4 x5 x6 x7
  | 0, _ => 0
  | k + 1, xs => sumN (fun v => allC m p q r s k (v :: xs)) (m + 1)
def trI : List (List (Nat × Nat × Nat)) := [[(1, 1, 1)], [(1, 1, 2), (1, 2, 1), (2, 1, 1)], [(1, 2, 2), (2, 2, 1), (2, 1, 2)], [(2, 2, 2)]]
theorem fillI (m : Nat) : fillC 3 m trI (baseT dI) = sumN (fun a => sumN (fun b => sumN (fun c => sumN (fun e => ok3 1 0 0 1 a b b c b c c e) (m + 1)) (m + 1)) (m + 1)) (m + 1) := rfl
theorem growI_raw (m : Nat) : growC 3 m 8 0 (baseT dI) = sumN (fun a => if decide ((a : Int) = a) = true then sumN (fun b => sumN (fun c => if decide ((c : Int) = b) = true then sumN (fun d => if decide ((d : Int) = d) = true then sumN (fun e => if decide ((e : Int) = e) = true then
    sumN (fun g => sumN (fun h => if decide ((h : Int) = g) = true then sumN (fun i => if decide ((i : Int) = i) = true then ok3 1 0 0 1 a b c d e g h i else 0) (m + 1) else 0) (m + 1)) (m + 1) else 0) (m + 1) else 0) (m + 1) else 0) (m + 1)) (m + 1) else 0) (m + 1) := rfl
theorem growS_raw (m : Nat) : growC 3 m 8 0 (baseT dS) = sumN (fun a => sumN (fun b => sumN (fun c => sumN (fun d => sumN (fun e => if decide ((e : Int) = a) = true then
    sumN (fun g => if decide ((g : Int) = c) = true then sumN (fun h => if decide ((h : Int) = b) = true then sumN (fun i => if decide ((i : Int) = d) = true then ok3 0 1 1 0 a b c d e g h i else 0) (m + 1) else 0) (m + 1) else 0) (m + 1) else 0) (m + 1)) (m + 1)) (m + 1)) (m + 1)) (m + 1) := by kernel_rfl
def trS : List (List (Nat × Nat × Nat)) := [[(1, 1, 1), (2, 1, 1), (1, 2, 1), (1, 2, 2), (2, 1, 2), (2, 2, 2)], [(1, 1, 2), (2, 2, 1)]]
theorem fillS (m : Nat) : fillC 3 m trS (baseT dS) = sumN (fun a => sumN (fun b => ok3 0 1 1 0 a b a a a a b a) (m + 1)) (m + 1) := rfl
theorem growI (m : Nat) : growC 3 m 8 0 (baseT dI) = fillC 3 m trI (baseT dI) := by
  rw [growI_raw, fillI]
  refine sumN_congr fun a ha => ?_
  rw [if_pos (by simp)]
  refine sumN_congr fun b hb => ?_
  rw [sumN_one (u := b) hb fun c hc hne => if_neg (by simp; omega), if_pos (by simp)]
  refine sumN_congr fun d hd => ?_
  rw [if_pos (by simp), sumN_one (u := b) hb fun e he hne => ?_, if_pos (by simp), sumN_one (u := d) hd fun g hg hne => ?_, sumN_one (u := d) hd fun h hh hne => if_neg (by simp; omega), if_pos (by simp)]
  · exact sumN_congr fun i hi => if_pos (by simp)
  · refine sumN_zero fun h hh => ?_
    split
    · refine sumN_zero fun i hi => ?_
      split
      · exact ok3_I fun k => hne (by omega)
      · rfl
    · rfl
  · split
    · refine sumN_zero fun g hg => sumN_zero fun h hh => ?_
      split
      · refine sumN_zero fun i hi => ?_
        split
        · exact ok3_I fun k => hne (by omega)
        · rfl
      · rfl
    · rfl
theorem growS (m : Nat) : growC 3 m 8 0 (baseT dS) = fillC 3 m trS (baseT dS) := by
  rw [growS_raw, fillS]
  refine sumN_congr fun a ha => ?_
  refine sumN_congr fun b hb => ?_
  have Z : ∀ c d : Nat, ¬ (c = a ∧ d = a) → sumN (fun e => if decide ((e : Int) = a) = true then
    sumN (fun g => if decide ((g : Int) = c) = true then sumN (fun h => if decide ((h : Int) = b) = true then sumN (fun i => if decide ((i : Int) = d) = true then ok3 0 1 1 0 a b c d e g h i else 0) (m + 1) else 0) (m + 1) else 0) (m + 1) else 0) (m + 1) = 0 := by
    intro c d hcd
    refine sumN_zero fun e he => ?_
    split
    · refine sumN_zero fun g hg => ?_
      split
      · refine sumN_zero fun h hh => ?_
        split
        · refine sumN_zero fun i hi => ?_
          split
          · exact ok3_S fun k => hcd ⟨by omega, by omega⟩
          · rfl
        · rfl
      · rfl
    · rfl
  rw [sumN_one (u := a) ha fun c hc hne => sumN_zero fun d hd => Z c d fun k => hne k.1,
    sumN_one (u := a) ha fun d hd hne => Z a d fun k => hne k.2,
    sumN_one (u := a) ha fun e he hne => if_neg (by simp; omega), if_pos (by simp),
    sumN_one (u := a) ha fun e he hne => if_neg (by simp; omega), if_pos (by simp),
    sumN_one (u := b) hb fun e he hne => if_neg (by simp; omega), if_pos (by simp),
    sumN_one (u := a) ha fun e he hne => if_neg (by simp; omega), if_pos (by simp)]
theorem grow2 (m : Nat) : growC 2 m 1 0 (baseT dI) = fillC 2 m [[(1, 1, 1)]] (baseT dI) := by
  have e : growC 2 m 1 0 (baseT dI) = sumN (fun a => if decide ((a : Int) = a) = true then okR3 2 (upd (baseT dI) 1 1 1 a) else 0) (m + 1) := rfl
  rw [e]
  exact sumN_congr fun a ha => if_pos (by simp)
theorem grow1 (m : Nat) : growC 1 m 0 0 (baseT dI) = fillC 1 m [] (baseT dI) := rfl
/-- What both sides count. -/
def ringsC (n m : Nat) : Nat := if n = 1 then fillC 1 m [] (baseT dI) else if n = 2 then fillC 2 m [[(1, 1, 1)]] (baseT dI) else fillC 3 m trI (baseT dI) + fillC 3 m trS (baseT dS)
end Go.Proofs.Yteobaodabjdcaaa
