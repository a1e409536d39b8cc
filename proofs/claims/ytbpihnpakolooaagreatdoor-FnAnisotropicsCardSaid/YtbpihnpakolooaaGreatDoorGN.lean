
/- The least list that holds 0 and is closed under adding given elements, told plainly; no program is walked here. -/
import Derived.Test.YtbpihnpakolooaaGreatDoorBa
namespace Go.Proofs.YtbpihnpakolooaaGreatDoor
open Go Go.RowKit
set_option linter.unusedVariables false
/-- What sums of given elements reach, from 0. -/
inductive Gen (f : Int → Int → Int) (l : List Int) : Int → Prop
  | zero : Gen f l 0
  | step {a x : Int} : Gen f l a → x ∈ l → Gen f l (f a x)
/-- A queue whose first i elements have been added to all of l, and the next one to the first k of l. -/
structure Qs (f : Int → Int → Int) (l q : List Int) (i k : Nat) : Prop where
  nodup : q.Nodup
  zero : 0 ∈ q
  gen : ∀ y ∈ q, Gen f l y
  done : ∀ j, j < i → j < q.length → ∀ x ∈ l, f (gi q j) x ∈ q
  part : ∀ j, j < k → f (gi q i) (gi l j) ∈ q
theorem Qs.start (f : Int → Int → Int) (l : List Int) : Qs f l [0] 0 0 :=
  ⟨by simp, by simp, fun y hy => by rw [List.mem_singleton.1 hy]; exact .zero, fun j hj => absurd hj (Nat.not_lt_zero _), fun j hj => absurd hj (Nat.not_lt_zero _)⟩
theorem Qs.met {f : Int → Int → Int} {l q : List Int} {i k : Nat} (h : Qs f l q i k) (hm : f (gi q i) (gi l k) ∈ q) : Qs f l q i (k + 1) :=
  ⟨h.nodup, h.zero, h.gen, h.done, fun j hj => by
    by_cases e : j = k
    · rw [e]; exact hm
    · exact h.part j (by omega)⟩
theorem gi_app_l {q r : List Int} {j : Nat} (hj : j < q.length) : gi (q ++ r) j = gi q j := by
  simp [gi, List.getElem?_append_left hj]
theorem Qs.push {f : Int → Int → Int} {l q : List Int} {i k : Nat} (h : Qs f l q i k) (hi : i < q.length) (hk : k < l.length) (hm : f (gi q i) (gi l k) ∉ q) : Qs f l (q ++ [f (gi q i) (gi l k)]) i (k + 1) := by
  refine ⟨?_, by simp [h.zero], ?_, ?_, ?_⟩
  · rw [List.nodup_append]
    exact ⟨h.nodup, by simp, fun a ha b hb => by rw [List.mem_singleton.1 hb]; rintro rfl; exact hm ha⟩
  · intro y hy
    rcases List.mem_append.1 hy with hy | hy
    · exact h.gen y hy
    · rw [List.mem_singleton.1 hy]; exact .step (h.gen _ (gi_mem hi)) (gi_mem hk)
  · intro j hj hj' x hx
    rw [gi_app_l (by omega)]
    exact List.mem_append_left _ (h.done j hj (by omega) x hx)
  · intro j hj
    rw [gi_app_l hi]
    by_cases e : j = k
    · rw [e]; simp
    · exact List.mem_append_left _ (h.part j (by omega))
theorem Qs.row {f : Int → Int → Int} {l q : List Int} {i : Nat} (h : Qs f l q i l.length) : Qs f l q (i + 1) 0 := by
  refine ⟨h.nodup, h.zero, h.gen, ?_, fun j hj => absurd hj (Nat.not_lt_zero _)⟩
  intro j hj hj' x hx
  by_cases e : j = i
  · obtain ⟨k, hk, rfl⟩ := List.mem_iff_getElem.1 hx
    have := h.part k hk
    rw [e]
    simpa [gi, List.getElem?_eq_getElem hk] using this
  · exact h.done j (by omega) hj' x hx
theorem Qs.fin {f : Int → Int → Int} {l q : List Int} {i : Nat} (h : Qs f l q i 0) (hi : q.length ≤ i) (y : Int) : Gen f l y ↔ y ∈ q := by
  refine ⟨fun hg => ?_, h.gen y⟩
  induction hg with
  | zero => exact h.zero
  | step _ hx ih =>
    obtain ⟨j, hj, rfl⟩ := List.mem_iff_getElem.1 ih
    have := h.done j (by omega) hj _ hx
    simpa [gi, List.getElem?_eq_getElem hj] using this
theorem Gen.rng {f : Int → Int → Int} {l : List Int} {N : Int} (hf : ∀ a x, 0 ≤ f a x ∧ f a x < N) (hN : 0 < N) {y : Int} (h : Gen f l y) : 0 ≤ y ∧ y < N := by
  cases h with
  | zero => omega
  | step _ _ => exact hf _ _
/-- The numbers from 0 on, in order, that sums reach. -/
noncomputable def genL (f : Int → Int → Int) (l : List Int) (N : Nat) : List Int :=
  open Classical in ((List.range N).filter fun (x : Nat) => decide (Gen f l (x : Int))).map fun (x : Nat) => (x : Int)
theorem mem_genL {f : Int → Int → Int} {l : List Int} {N : Nat} {y : Int} : y ∈ genL f l N ↔ Gen f l y ∧ 0 ≤ y ∧ y < N := by
  unfold genL
  simp only [List.mem_map, List.mem_filter, List.mem_range, decide_eq_true_eq]
  constructor
  · rintro ⟨x, ⟨h, g⟩, rfl⟩; exact ⟨g, by omega, by omega⟩
  · rintro ⟨g, h0, h1⟩; exact ⟨y.toNat, ⟨by omega, by rwa [Int.toNat_of_nonneg h0]⟩, by omega⟩
theorem genL_lt (f : Int → Int → Int) (l : List Int) (N : Nat) : (genL f l N).Pairwise (· < ·) := by
  unfold genL
  refine List.Pairwise.map _ (R := (· < ·)) (fun a b h => by simpa using h) ?_
  exact List.Pairwise.filter _ List.pairwise_lt_range
theorem Qs.len {f : Int → Int → Int} {l q : List Int} {i k N : Nat} (h : Qs f l q i k) (hf : ∀ a x, 0 ≤ f a x ∧ f a x < N) (hN : 0 < N) : q.length ≤ N := by
  have : q.length ≤ ((List.range N).map fun (x : Nat) => (x : Int)).length := by
    refine h.nodup.length_le_of_subset fun y hy => ?_
    have := (h.gen y hy).rng (N := N) hf (by omega)
    exact List.mem_map.2 ⟨y.toNat, List.mem_range.2 (by omega), by omega⟩
  simpa using this
theorem Qs.sort {f : Int → Int → Int} {l q : List Int} {i N : Nat} (h : Qs f l q i 0) (hi : q.length ≤ i) (hf : ∀ a x, 0 ≤ f a x ∧ f a x < N) (hN : 0 < N) : q.mergeSort (fun x y => decide (x ≤ y)) = genL f l N := by
  have hp : (q.mergeSort (fun x y => decide (x ≤ y))).Perm (genL f l N) := by
    refine (List.mergeSort_perm _ _).trans ((List.perm_ext_iff_of_nodup h.nodup ?_).2 fun y => ?_)
    · exact (genL_lt f l N).imp fun hab => by omega
    · rw [mem_genL, ← h.fin hi]
      exact ⟨fun g => ⟨g, g.rng (N := N) hf (by omega)⟩, fun g => g.1⟩
  refine hp.eq_of_pairwise (le := (· ≤ ·)) (fun a b _ _ h1 h2 => by omega) ?_ ((genL_lt f l N).imp fun hab => by omega)
  have := List.pairwise_mergeSort (le := fun x y : Int => decide (x ≤ y)) (fun a b c h1 h2 => by simp at *; omega) (fun a b => by simp; omega) q
  exact this.imp fun hab => by simpa using hab
theorem genL_len (f : Int → Int → Int) (l : List Int) (N : Nat) : (genL f l N).length ≤ N := by
  unfold genL
  have := List.length_filter_le (fun x : Nat => open Classical in decide (Gen f l (x : Int))) (List.range N)
  simpa using this
end Go.Proofs.YtbpihnpakolooaaGreatDoor
