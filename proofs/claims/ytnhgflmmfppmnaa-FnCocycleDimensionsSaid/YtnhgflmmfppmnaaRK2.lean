
/- Elimination as the reference does it, plain: a list is made zero at the places of the rows before it. -/
import Derived.Test.YtnhgflmmfppmnaaRK
import Derived.Test.YtnhgflmmfppmnaaBa
namespace Go.Proofs.Ytnhgflmmfppmnaa
namespace Rk
set_option linter.unusedVariables false

def vec (xs : List Int) : Vec := fun j => gi xs j
def In01 (p : Int) (m : Nat) (xs : List Int) : Prop := xs.length = m ∧ ∀ j, j < m → 0 ≤ gi xs j ∧ gi xs j < p
def lessL (p : Int) (a b : List Int) (k : Int) : List Int := (List.range a.length).map fun i => (gi a i + (p - k) * gi b i) % p
theorem lessL_gi {p : Int} {a b : List Int} {k : Int} {j : Nat} (hj : j < a.length) : gi (lessL p a b k) j = (gi a j + (p - k) * gi b j) % p := by
  unfold lessL
  rw [show gi ((List.range a.length).map fun i => (gi a i + (p - k) * gi b i) % p) j = ((List.range a.length).map fun i => (gi a i + (p - k) * gi b i) % p).getD j 0 from rfl]
  simp [List.getD, List.getElem?_range hj]
theorem lessL_in {p : Int} (hp : 2 ≤ p) {m : Nat} {a b : List Int} {k : Int} (ha : a.length = m) : In01 p m (lessL p a b k) := by
  refine ⟨by simp [lessL, ha], fun j hj => ?_⟩
  rw [lessL_gi (by omega)]
  exact ⟨Int.emod_nonneg _ (by omega), Int.emod_lt_of_pos _ (by omega)⟩
theorem dvd_emod_sub (p x : Int) : p ∣ x % p - x := by
  rw [Int.emod_def]
  exact ⟨-(x / p), by rw [Int.mul_neg]; omega⟩
theorem zero_of_dvd {p x : Int} (h0 : 0 ≤ x) (h1 : x < p) (h : p ∣ x) : x = 0 := by rw [← Int.emod_eq_of_lt h0 h1]; exact Int.emod_eq_zero_of_dvd h
/-- The vectors of the first k lists. -/
def GenL (xs : List (List Int)) (k : Nat) : Vec → Prop := fun v => ∃ i x, i < k ∧ xs[i]? = some x ∧ v = vec x
/-- Rows with distinct leading places; row i' is zero at the place of each row before it. -/
structure St (p : Int) (m : Nat) (G : Vec → Prop) (rows : List (List Int)) (piv : List Nat) : Prop where
  len : rows.length = piv.length
  in01 : ∀ i, i < rows.length → In01 p m (rows.getD i [])
  lt : ∀ i, i < rows.length → piv.getD i 0 < m
  one : ∀ i, i < rows.length → gi (rows.getD i []) (piv.getD i 0) = 1
  low : ∀ i j, i < rows.length → j < piv.getD i 0 → gi (rows.getD i []) j = 0
  off : ∀ i i', i < i' → i' < rows.length → gi (rows.getD i' []) (piv.getD i 0) = 0
  inn : ∀ i, i < rows.length → Sp p m G (vec (rows.getD i []))
  out : ∀ g, G g → Sp p m (Rows rows.length fun i => vec (rows.getD i [])) g
theorem St.start {p : Int} {m : Nat} : St p m (fun _ => False) [] [] :=
  ⟨rfl, fun i h => absurd h (by simp), fun i h => absurd h (by simp), fun i h => absurd h (by simp), fun i j h => absurd h (by simp), fun i i' _ h => absurd h (by simp), fun i h => absurd h (by simp), fun g h => h.elim⟩
theorem St.rk {p : Int} (hp : 2 ≤ p) {m : Nat} {G : Vec → Prop} {rows : List (List Int)} {piv : List Nat} (h : St p m G rows piv) : HasRk p m G rows.length := by
  refine ⟨fun i => vec (rows.getD i []), fun i => piv.getD i 0, ⟨fun i hi => ⟨?_, fun j hj => ?_⟩, h.lt, fun i j hi hj he => ?_⟩, h.out, h.inn⟩
  · show ¬ p ∣ gi _ _
    rw [h.one i hi]
    intro hd
    have := Int.le_of_dvd (by omega) hd
    omega
  · show p ∣ gi _ _
    rw [h.low i j hi hj]; exact Int.dvd_zero p
  · rcases Nat.lt_trichotomy i j with hl | hl | hl
    · have h1 := h.off i j hl hj
      have h2 := h.one j hj
      replace he : piv.getD i 0 = piv.getD j 0 := he
      rw [he, h2] at h1; omega
    · exact hl
    · have h1 := h.off j i hl hi
      have h2 := h.one i hi
      replace he : piv.getD i 0 = piv.getD j 0 := he
      rw [← he, h2] at h1; omega
/-- While a list is made less: zero at the places of the first k rows; what was taken is in the rows' span. -/
structure Red (p : Int) (m : Nat) (rows : List (List Int)) (piv : List Nat) (orig : List Int) (k : Nat) (L : List Int) : Prop where
  in01 : In01 p m L
  zero : ∀ i, i < k → gi L (piv.getD i 0) = 0
  sp : Sp p m (Rows rows.length fun i => vec (rows.getD i [])) (fun j => vec orig j - vec L j)
theorem Red.start {p : Int} {m : Nat} {rows : List (List Int)} {piv : List Nat} {orig : List Int} (h : In01 p m orig) : Red p m rows piv orig 0 orig :=
  ⟨h, fun i hi => absurd hi (by omega), .zero _ fun j _ => by simp⟩
theorem Red.skip {p : Int} {m : Nat} {rows : List (List Int)} {piv : List Nat} {orig L : List Int} {k : Nat} (h : Red p m rows piv orig k L) (hz : gi L (piv.getD k 0) = 0) : Red p m rows piv orig (k + 1) L :=
  ⟨h.in01, fun i hi => (by rcases Nat.lt_succ_iff_lt_or_eq.1 hi with h' | rfl; exact h.zero i h'; exact hz), h.sp⟩
theorem Red.step {p : Int} (hp : 2 ≤ p) {m : Nat} {G : Vec → Prop} {rows : List (List Int)} {piv : List Nat} {orig L : List Int} {k : Nat} (hS : St p m G rows piv) (h : Red p m rows piv orig k L) (hk : k < rows.length) :
    Red p m rows piv orig (k + 1) (lessL p L (rows.getD k []) (gi L (piv.getD k 0))) := by
  have hLl := h.in01.1
  refine ⟨lessL_in hp hLl, fun i hi => ?_, ?_⟩
  · have hpi : piv.getD i 0 < L.length := by rw [hLl]; exact hS.lt i (by omega)
    rw [lessL_gi hpi]
    rcases Nat.lt_succ_iff_lt_or_eq.1 hi with h' | rfl
    · rw [h.zero i h', hS.off i k h' hk]; simp
    · rw [hS.one i hk, Int.mul_one]
      rw [show gi L (piv.getD i 0) + (p - gi L (piv.getD i 0)) = p by omega, Int.emod_self]
  · have h1 := h.sp.plus ((Sp.gen (m := m) (p := p) (G := Rows rows.length fun i => vec (rows.getD i [])) ⟨k, hk, rfl⟩).smul (gi L (piv.getD k 0)))
    refine h1.congr fun j hj => ?_
    show p ∣ gi orig j - gi (lessL p L (rows.getD k []) (gi L (piv.getD k 0))) j - (gi orig j - gi L j + gi L (piv.getD k 0) * gi (rows.getD k []) j)
    rw [lessL_gi (by omega)]
    have h2 := dvd_emod_sub p (gi L j + (p - gi L (piv.getD k 0)) * gi (rows.getD k []) j)
    have h3 := Int.dvd_sub (Int.dvd_mul_right p (gi (rows.getD k []) j)) h2
    have h4 := Int.dvd_sub h3 (Int.dvd_mul_of_dvd_left (c := gi (rows.getD k []) j * 2) (Int.dvd_refl p))
    have e : (p - gi L (piv.getD k 0)) * gi (rows.getD k []) j = p * gi (rows.getD k []) j - gi L (piv.getD k 0) * gi (rows.getD k []) j := Int.sub_mul _ _ _
    rw [e] at h4 ⊢
    have key : gi orig j - (gi L j + (p * gi (rows.getD k []) j - gi L (piv.getD k 0) * gi (rows.getD k []) j)) % p - (gi orig j - gi L j + gi L (piv.getD k 0) * gi (rows.getD k []) j) =
      -((gi L j + (p * gi (rows.getD k []) j - gi L (piv.getD k 0) * gi (rows.getD k []) j)) % p - (gi L j + (p * gi (rows.getD k []) j - gi L (piv.getD k 0) * gi (rows.getD k []) j))) - p * gi (rows.getD k []) j := by omega
    rw [key]
    rw [e] at h2
    exact Int.dvd_sub (Int.dvd_neg.2 h2) (Int.dvd_mul_right p _)
theorem getD_app {α : Type} (xs : List α) (x d : α) (i : Nat) : (xs ++ [x]).getD i d = if i < xs.length then xs.getD i d else if i = xs.length then x else d := by
  simp only [List.getD_eq_getElem?_getD]
  by_cases h : i < xs.length
  · rw [if_pos h, List.getElem?_append_left h]
  · rw [if_neg h, List.getElem?_append_right (by omega)]
    by_cases e : i = xs.length
    · subst e; simp
    · rw [if_neg e, List.getElem?_eq_none (by simp; omega)]; rfl
/-- A list that has become zero. -/
theorem St.zero {p : Int} {m : Nat} {G : Vec → Prop} {rows : List (List Int)} {piv : List Nat} {orig L : List Int} (hS : St p m G rows piv) (h : Red p m rows piv orig rows.length L) (hz : ∀ j, j < m → gi L j = 0) :
    St p m (fun v => G v ∨ v = vec orig) rows piv :=
  ⟨hS.len, hS.in01, hS.lt, hS.one, hS.low, hS.off, fun i hi => (hS.inn i hi).mono fun g hg => Sp.gen (.inl hg), fun g hg => by
    rcases hg with hg | rfl
    · exact hS.out g hg
    · refine h.sp.congr fun j hj => ?_
      show p ∣ gi orig j - (gi orig j - gi L j)
      rw [hz j hj]; simp⟩
/-- One more row. -/
theorem St.more {p : Int} (hp : 2 ≤ p) {m : Nat} {G : Vec → Prop} {rows : List (List Int)} {piv : List Nat} {orig L N : List Int} {at_ : Nat} {inv : Int} (hS : St p m G rows piv) (h : Red p m rows piv orig rows.length L)
    (hat : at_ < m) (hlow : ∀ j, j < at_ → gi L j = 0) (hinv : inv * gi L at_ % p = 1) (hN : In01 p m N) (hNe : ∀ j, j < m → gi N j = inv * gi L j % p) :
    St p m (fun v => G v ∨ v = vec orig) (rows ++ [N]) (piv ++ [at_]) := by
  have hlen := hS.len
  have hN1 : gi N at_ = 1 := by rw [hNe at_ hat, hinv]
  have hN0 : ∀ j, j < at_ → gi N j = 0 := fun j hj => by rw [hNe j (by omega), hlow j hj]; simp
  have hNp : ∀ i, i < rows.length → gi N (piv.getD i 0) = 0 := fun i hi => by rw [hNe _ (hS.lt i hi), h.zero i hi]; simp
  have hcase : ∀ i, i < (rows ++ [N]).length → i < rows.length ∨ i = rows.length := fun i hi => by simp at hi; omega
  have hr : ∀ i, i < rows.length → (rows ++ [N]).getD i [] = rows.getD i [] ∧ (piv ++ [at_]).getD i 0 = piv.getD i 0 := fun i hi => by
    rw [getD_app, if_pos hi, getD_app, if_pos (by omega)]; exact ⟨rfl, rfl⟩
  have hl : (rows ++ [N]).getD rows.length [] = N ∧ (piv ++ [at_]).getD rows.length 0 = at_ := by
    rw [getD_app, if_neg (by omega), if_pos rfl, getD_app, if_neg (by omega), if_pos hlen]; exact ⟨rfl, rfl⟩
  have hL : Sp p m (fun v => G v ∨ v = vec orig) (vec L) := by
    have h1 := (Sp.gen (p := p) (m := m) (G := fun v => G v ∨ v = vec orig) (.inr rfl : G (vec orig) ∨ vec orig = vec orig)).plus ((h.sp.mono (H := fun v => G v ∨ v = vec orig) fun g hg => by
      obtain ⟨i, hi, rfl⟩ := hg
      exact (hS.inn i hi).mono fun g hg => Sp.gen (.inl hg)).smul (-1))
    refine h1.congr fun j hj => ?_
    show p ∣ gi L j - (gi orig j + -1 * (gi orig j - gi L j))
    rw [show gi L j - (gi orig j + -1 * (gi orig j - gi L j)) = 0 by omega]; exact Int.dvd_zero p
  have hsub : ∀ g, Rows rows.length (fun i => vec (rows.getD i [])) g → Sp p m (Rows (rows ++ [N]).length fun i => vec ((rows ++ [N]).getD i [])) g := fun g hg => by
    obtain ⟨i, hi, rfl⟩ := hg
    exact Sp.gen ⟨i, by simp; omega, by show vec (rows.getD i []) = vec ((rows ++ [N]).getD i []); rw [(hr i hi).1]⟩
  refine ⟨by simp [hlen], fun i hi => ?_, fun i hi => ?_, fun i hi => ?_, fun i j hi hj => ?_, fun i i' hii hi' => ?_, fun i hi => ?_, fun g hg => ?_⟩
  · rcases hcase i hi with h' | rfl
    · rw [(hr i h').1]; exact hS.in01 i h'
    · rw [hl.1]; exact hN
  · rcases hcase i hi with h' | rfl
    · rw [(hr i h').2]; exact hS.lt i h'
    · rw [hl.2]; exact hat
  · rcases hcase i hi with h' | rfl
    · rw [(hr i h').1, (hr i h').2]; exact hS.one i h'
    · rw [hl.1, hl.2]; exact hN1
  · rcases hcase i hi with h' | rfl
    · rw [(hr i h').2] at hj; rw [(hr i h').1]; exact hS.low i j h' hj
    · rw [hl.2] at hj; rw [hl.1]; exact hN0 j hj
  · rcases hcase i' hi' with h' | rfl
    · rw [(hr i' h').1, (hr i (by omega)).2]; exact hS.off i i' hii h'
    · rw [hl.1, (hr i hii).2]; exact hNp i hii
  · rcases hcase i hi with h' | rfl
    · rw [(hr i h').1]; exact (hS.inn i h').mono fun g hg => Sp.gen (.inl hg)
    · rw [hl.1]
      refine (hL.smul inv).congr fun j hj => ?_
      show p ∣ gi N j - inv * gi L j
      rw [hNe j hj]; exact dvd_emod_sub p _
  · rcases hg with hg | rfl
    · exact (hS.out g hg).mono hsub
    · have h1 := (h.sp.mono hsub).plus ((Sp.gen (p := p) (m := m) (G := Rows (rows ++ [N]).length fun i => vec ((rows ++ [N]).getD i [])) ⟨rows.length, by simp, rfl⟩).smul (gi L at_))
      refine h1.congr fun j hj => ?_
      show p ∣ gi orig j - (gi orig j - gi L j + gi L at_ * gi ((rows ++ [N]).getD rows.length []) j)
      rw [hl.1, hNe j hj]
      have a1 := dvd_emod_sub p (inv * gi L j)
      have a2 := dvd_emod_sub p (inv * gi L at_)
      rw [hinv] at a2
      obtain ⟨x, hx⟩ := a1
      obtain ⟨y, hy⟩ := a2
      refine ⟨y * gi L j - gi L at_ * x, ?_⟩
      have e1 : inv * gi L j % p = p * x + inv * gi L j := by omega
      have e2 : inv * gi L at_ = 1 - p * y := by omega
      rw [e1]
      grind
end Rk
end Go.Proofs.Ytnhgflmmfppmnaa
