
/- Cocycles, plain: cochains, normalised ones, the first fault; no function of the program is walked here. -/
import Derived.Test.YtnhgflmmfppmnaaRG
import Derived.Test.YtnhgflmmfppmnaaGC
namespace Go.Proofs.Ytnhgflmmfppmnaa
open Go Go.RowKit Grp
set_option linter.unusedVariables false

/-- The rows of a table of n by n by n numbers from 0 to m - 1. -/
def RowM (n : Nat) (m : Int) (r : List Int) : Prop := r.length = n ∧ ∀ x ∈ r, 0 ≤ x ∧ x ≤ m - 1
def MatM (n : Nat) (m : Int) (t : List (List Int)) : Prop := t.length = n ∧ ∀ r ∈ t, RowM n m r
structure IsCh (os : List Int) (m : Int) (t : Tb) : Prop where
  ord : OrdH os
  p8 : prodL os ≤ 8
  m1 : 1 ≤ m
  m2 : m ≤ 1000
  len : (t.length : Int) = prodL os
  mat : ∀ r ∈ t, MatM t.length m r
open Classical in
noncomputable def chB (os : List Int) (m : Int) (t : Tb) : Bool := decide (IsCh os m t)
theorem chB_t {os : List Int} {m : Int} {t : Tb} (h : IsCh os m t) : chB os m t = true := by simp [chB, h]
theorem chB_f {os : List Int} {m : Int} {t : Tb} (h : ¬ IsCh os m t) : chB os m t = false := by simp [chB, h]
theorem chB_iff {os : List Int} {m : Int} {t : Tb} : chB os m t = true ↔ IsCh os m t := by simp [chB]
theorem IsCh.pos {os : List Int} {m : Int} {t : Tb} (h : IsCh os m t) : 1 ≤ t.length := by have := prodL_pos h.ord.2; have := h.len; omega
theorem IsCh.le {os : List Int} {m : Int} {t : Tb} (h : IsCh os m t) : t.length ≤ 8 := by have := h.p8; have := h.len; omega
theorem IsCh.ok {os : List Int} {m : Int} {t : Tb} (h : IsCh os m t) (hn : os.length ≤ 1048576) : OkH os := okH_of h.ord hn (by have := h.p8; omega)
theorem IsCh.rows {os : List Int} {m : Int} {t : Tb} (h : IsCh os m t) : ∀ r ∈ t, r.length = t.length ∧ ∀ s ∈ r, s.length = t.length := fun r hr => ⟨(h.mat r hr).1, fun s hs => ((h.mat r hr).2 s hs).1⟩
theorem t3_of {t : Tb} {i j k : Nat} {a : List (List Int)} {r : List Int} (h1 : t[i]? = some a) (h2 : a[j]? = some r) : t3 t i j k = gi r k := by unfold t3; rw [getD_of h1, getD_of h2]
theorem IsCh.rng {os : List Int} {m : Int} {t : Tb} (h : IsCh os m t) {i j k : Nat} (hi : i < t.length) (hj : j < t.length) (hk : k < t.length) : 0 ≤ t3 t i j k ∧ t3 t i j k ≤ m - 1 := by
  obtain ⟨a, ha⟩ := get_at (xs := t) (k := i) hi
  have h1 := h.mat a (get_mem ha)
  obtain ⟨r, hr⟩ := get_at (xs := a) (k := j) (by rw [h1.1]; exact hj)
  have h2 := h1.2 r (get_mem hr)
  rw [t3_of ha hr]
  exact h2.2 _ (gi_mem (by rw [h2.1]; exact hk))
theorem IsCh.t3rng {os : List Int} {m : Int} {t : Tb} (h : IsCh os m t) {i j k : Nat} (hi : i < t.length) (hj : j < t.length) (hk : k < t.length) : 0 ≤ t3 t i j k ∧ t3 t i j k ≤ 999 := by
  have := h.rng hi hj hk; have := h.m2; omega
theorem rowM_of {n : Nat} {m : Int} {r : List Int} (hl : r.length = n) (h : ∀ j, j < n → 0 ≤ gi r j ∧ gi r j ≤ m - 1) : RowM n m r := by
  refine ⟨hl, fun x hx => ?_⟩
  obtain ⟨j, hj, rfl⟩ := List.getElem_of_mem hx
  have := h j (by omega)
  unfold gi at this
  rwa [List.getD_eq_getElem?_getD, List.getElem?_eq_getElem hj] at this
theorem all_get' {α : Type} {p : α → Prop} {xs : List α} (h : ∀ (j : Nat) x, xs[j]? = some x → p x) : ∀ x ∈ xs, p x := by
  intro x hx
  obtain ⟨j, hj, rfl⟩ := List.getElem_of_mem hx
  exact h j _ (List.getElem?_eq_getElem hj)
/-- Normalised. -/
def Nrm (t : Tb) : Prop := ∀ x y z, x < t.length → y < t.length → z < t.length → (x = 0 ∨ y = 0 ∨ z = 0) → t3 t x y z = 0
open Classical in
noncomputable def nrB (t : Tb) : Bool := decide (Nrm t)
theorem nrB_t {t : Tb} (h : Nrm t) : nrB t = true := by simp [nrB, h]
theorem nrB_f {t : Tb} (h : ¬ Nrm t) : nrB t = false := by simp [nrB, h]
theorem nrB_iff {t : Tb} : nrB t = true ↔ Nrm t := by simp [nrB]
/-- The sum of two elements, as numbers. -/
def An (os : List Int) (x y : Nat) : Nat := (Ar os x y).toNat
theorem An_eq {os : List Int} (h : OkH os) (x y : Nat) : Ar os x y = (An os x y : Int) := by have := arH_rng h (x : Int) y; unfold An; omega
theorem An_lt {os : List Int} (h : OkH os) {n : Nat} (hn : (n : Int) = prodL os) (x y : Nat) : An os x y < n := by have := arH_rng h (x : Int) y; have := An_eq h x y; omega
def cob (os : List Int) (t : Tb) (x y z u : Nat) : Int := t3 t y z u - t3 t (An os x y) z u + t3 t x (An os y z) u - t3 t x y (An os z u) + t3 t x y z
def cfAt (os : List Int) (m : Int) (t : Tb) (x y z u : Nat) : Option (List Int) := if cob os t x y z u % m = 0 then none else some [x, y, z, u]
def cfF (os : List Int) (m : Int) (t : Tb) : Option (List Int) := fs t.length fun x => fs t.length fun y => fs t.length fun z => fs t.length fun u => cfAt os m t x y z u
theorem cfAt_no {os : List Int} {m : Int} {t : Tb} {x y z u : Nat} (h : cob os t x y z u % m = 0) : cfAt os m t x y z u = none := by simp [cfAt, h]
theorem cfAt_1 {os : List Int} {m : Int} {t : Tb} {x y z u : Nat} (h : cob os t x y z u % m ≠ 0) : cfAt os m t x y z u = some [(x : Int), (y : Int), (z : Int), (u : Int)] := by simp [cfAt, h]
theorem tmod_zero {s m : Int} (hm : 1 ≤ m) : (s.tmod m = 0) ↔ (s % m = 0) := by
  rw [← Int.dvd_iff_tmod_eq_zero, ← Int.dvd_iff_emod_eq_zero]
/-- A cocycle. -/
noncomputable def ccB (os : List Int) (m : Int) (t : Tb) : Bool := chB os m t && (nrB t && (cfF os m t).isNone)
theorem ccB_1 {os : List Int} {m : Int} {t : Tb} (h : chB os m t = false) : ccB os m t = false := by simp [ccB, h]
theorem ccB_2 {os : List Int} {m : Int} {t : Tb} (h : nrB t = false) : ccB os m t = false := by simp [ccB, h]
theorem ccB_3 {os : List Int} {m : Int} {t : Tb} {x : List Int} (h : cfF os m t = some x) : ccB os m t = false := by simp [ccB, h]
theorem ccB_4 {os : List Int} {m : Int} {t : Tb} (h0 : chB os m t = true) (h1 : nrB t = true) (h : cfF os m t = none) : ccB os m t = true := by simp [ccB, h0, h1, h]
theorem ccB_t {os : List Int} {m : Int} {t : Tb} (h : ccB os m t = true) : IsCh os m t ∧ Nrm t ∧ cfF os m t = none := by
  unfold ccB at h
  rw [Bool.and_eq_true, Bool.and_eq_true, Option.isNone_iff_eq_none] at h
  exact ⟨chB_iff.1 h.1, nrB_iff.1 h.2.1, h.2.2⟩
end Go.Proofs.Ytnhgflmmfppmnaa
