
/- Elimination as the program does it, plain: column by column, in place. -/
import Derived.Test.YtnhgflmmfppmnaaRK2
namespace Go.Proofs.Ytnhgflmmfppmnaa
namespace Rk
set_option linter.unusedVariables false

/-- The first d rows lead at distinct places before column c; the others are zero before it. -/
structure Im (p : Int) (m : Nat) (G : Vec → Prop) (rows : List (List Int)) (d c : Nat) (l : Nat → Nat) : Prop where
  in01 : ∀ i, i < rows.length → In01 p m (rows.getD i [])
  le : d ≤ rows.length
  lt : ∀ i, i < d → l i < c
  inj : ∀ i j, i < d → j < d → l i = l j → i = j
  ne : ∀ i, i < d → gi (rows.getD i []) (l i) ≠ 0
  low : ∀ i j, i < d → j < l i → gi (rows.getD i []) j = 0
  zero : ∀ i j, d ≤ i → i < rows.length → j < c → gi (rows.getD i []) j = 0
  inn : ∀ i, i < rows.length → Sp p m G (vec (rows.getD i []))
  out : ∀ g, G g → Sp p m (Rows rows.length fun i => vec (rows.getD i [])) g
theorem Im.start {p : Int} {m : Nat} {rows : List (List Int)} (h : ∀ i, i < rows.length → In01 p m (rows.getD i [])) : Im p m (Rows rows.length fun i => vec (rows.getD i [])) rows 0 0 (fun _ => 0) :=
  ⟨h, by omega, fun i hi => absurd hi (by omega), fun i j hi => absurd hi (by omega), fun i hi => absurd hi (by omega), fun i j hi => absurd hi (by omega), fun i j _ _ hj => absurd hj (by omega), fun i hi => Sp.gen ⟨i, hi, rfl⟩, fun g hg => Sp.gen hg⟩
theorem Im.rk {p : Int} {m : Nat} {G : Vec → Prop} {rows : List (List Int)} {d c : Nat} {l : Nat → Nat} (h : Im p m G rows d c l) (hc : c ≤ m) (he : d = rows.length ∨ c = m) : HasRk p m G d := by
  refine ⟨fun i => vec (rows.getD i []), l, ⟨fun i hi => ⟨?_, fun j hj => ?_⟩, fun i hi => by have := h.lt i hi; omega, h.inj⟩, fun g hg => (h.out g hg).mono fun r hr => ?_, fun i hi => h.inn i (by have := h.le; omega)⟩
  · show ¬ p ∣ gi _ _
    intro hd
    have h1 := (h.in01 i (by have := h.le; omega)).2 (l i) (by have := h.lt i hi; omega)
    exact h.ne i hi (zero_of_dvd h1.1 h1.2 hd)
  · show p ∣ gi _ _
    rw [h.low i j hi hj]; exact Int.dvd_zero p
  · obtain ⟨i, hi, rfl⟩ := hr
    by_cases hid : i < d
    · exact Sp.gen ⟨i, hid, rfl⟩
    · rcases he with he | he
      · omega
      · refine .zero _ fun j hj => ?_
        show p ∣ gi _ _
        rw [h.zero i j (by omega) hi (by omega)]; exact Int.dvd_zero p
/-- No row from d on has a number in column c. -/
theorem Im.skip {p : Int} {m : Nat} {G : Vec → Prop} {rows : List (List Int)} {d c : Nat} {l : Nat → Nat} (h : Im p m G rows d c l) (hz : ∀ i, d ≤ i → i < rows.length → gi (rows.getD i []) c = 0) : Im p m G rows d (c + 1) l :=
  ⟨h.in01, h.le, fun i hi => by have := h.lt i hi; omega, h.inj, h.ne, h.low, fun i j hd hi hj => by
    rcases Nat.lt_succ_iff_lt_or_eq.1 hj with h' | rfl
    · exact h.zero i j hd hi h'
    · exact hz i hd hi, h.inn, h.out⟩
/-- Rows d and e change places. -/
def swp (rows : List (List Int)) (d e : Nat) : List (List Int) := (rows.set d (rows.getD e [])).set e (rows.getD d [])
theorem swp_len (rows : List (List Int)) (d e : Nat) : (swp rows d e).length = rows.length := by simp [swp]
theorem swp_get {rows : List (List Int)} {d e : Nat} (hd : d < rows.length) (he : e < rows.length) (i : Nat) : (swp rows d e).getD i [] = if i = e then rows.getD d [] else if i = d then rows.getD e [] else rows.getD i [] := by
  unfold swp
  simp only [List.getD_eq_getElem?_getD, List.getElem?_set, List.length_set]
  by_cases h1 : i = e
  · subst h1; simp [he]
  · have h1' : ¬ e = i := fun h => h1 h.symm
    simp only [h1, h1', if_false]
    by_cases h2 : i = d
    · subst h2; simp [hd]
    · have h2' : ¬ d = i := fun h => h2 h.symm
      simp only [h2, h2', if_false]
theorem Im.swap {p : Int} {m : Nat} {G : Vec → Prop} {rows : List (List Int)} {d c e : Nat} {l : Nat → Nat} (h : Im p m G rows d c l) (hde : d ≤ e) (he : e < rows.length) : Im p m G (swp rows d e) d c l := by
  have hd : d < rows.length := by omega
  have hg := swp_get hd he
  have hlo : ∀ i, i < d → (swp rows d e).getD i [] = rows.getD i [] := fun i hi => by rw [hg, if_neg (by omega), if_neg (by omega)]
  have hhi : ∀ i, d ≤ i → i < rows.length → ∃ i', d ≤ i' ∧ i' < rows.length ∧ (swp rows d e).getD i [] = rows.getD i' [] := fun i h1 h2 => by
    rw [hg]
    by_cases e1 : i = e
    · exact ⟨d, by omega, hd, by rw [if_pos e1]⟩
    · by_cases e2 : i = d
      · exact ⟨e, hde, he, by rw [if_neg e1, if_pos e2]⟩
      · exact ⟨i, h1, h2, by rw [if_neg e1, if_neg e2]⟩
  have hany : ∀ i, i < rows.length → ∃ i', i' < rows.length ∧ (swp rows d e).getD i [] = rows.getD i' [] := fun i hi => by
    by_cases h1 : i < d
    · exact ⟨i, hi, hlo i h1⟩
    · obtain ⟨i', _, h2, h3⟩ := hhi i (by omega) hi; exact ⟨i', h2, h3⟩
  refine ⟨fun i hi => ?_, by rw [swp_len]; exact h.le, h.lt, h.inj, fun i hi => by rw [hlo i hi]; exact h.ne i hi, fun i j hi hj => by rw [hlo i hi]; exact h.low i j hi hj, fun i j h1 hi hj => ?_, fun i hi => ?_, fun g hg' => (h.out g hg').mono fun r hr => ?_⟩
  · rw [swp_len] at hi
    obtain ⟨i', h1, h2⟩ := hany i hi
    rw [h2]; exact h.in01 i' h1
  · rw [swp_len] at hi
    obtain ⟨i', h2, h3, h4⟩ := hhi i h1 hi
    rw [h4]; exact h.zero i' j h2 h3 hj
  · rw [swp_len] at hi
    obtain ⟨i', h1, h2⟩ := hany i hi
    rw [h2]; exact h.inn i' h1
  · obtain ⟨i, hi, rfl⟩ := hr
    have : ∃ i', i' < rows.length ∧ (swp rows d e).getD i' [] = rows.getD i [] := by
      by_cases e1 : i = d
      · exact ⟨e, he, by rw [hg, if_pos rfl, e1]⟩
      · by_cases e2 : i = e
        · refine ⟨d, hd, ?_⟩
          rw [hg]
          by_cases e3 : d = e
          · rw [if_pos e3, e2, ← e3]
          · rw [if_neg e3, if_pos rfl, e2]
        · exact ⟨i, hi, by rw [hg, if_neg e2, if_neg e1]⟩
    obtain ⟨i', h1, h2⟩ := this
    exact Sp.gen ⟨i', by rw [swp_len]; exact h1, by show vec _ = vec _; rw [h2]⟩
/-- A row less a multiple of row d. -/
def elim (p : Int) (r q : List Int) (f : Int) : List Int := (List.range r.length).map fun k => (gi r k - f * gi q k) % p
theorem elim_gi {p : Int} {r q : List Int} {f : Int} {j : Nat} (hj : j < r.length) : gi (elim p r q f) j = (gi r j - f * gi q j) % p := by
  unfold elim
  rw [show gi ((List.range r.length).map fun k => (gi r k - f * gi q k) % p) j = ((List.range r.length).map fun k => (gi r k - f * gi q k) % p).getD j 0 from rfl]
  simp [List.getD, List.getElem?_range hj]
theorem set_get (rows : List (List Int)) (i : Nat) (x : List Int) (k : Nat) (hi : i < rows.length) : (rows.set i x).getD k [] = if k = i then x else rows.getD k [] := by
  simp only [List.getD_eq_getElem?_getD, List.getElem?_set]
  by_cases h : i = k
  · subst h; simp [hi]
  · rw [if_neg h, if_neg (fun h' => h h'.symm)]
/-- While rows behind d are made less: those before i are zero in column c. -/
structure El (p : Int) (m : Nat) (G : Vec → Prop) (rows : List (List Int)) (d c : Nat) (l : Nat → Nat) (inv : Int) (i : Nat) : Prop where
  im : Im p m G rows d c l
  dl : d < rows.length
  one : inv * gi (rows.getD d []) c % p = 1
  done : ∀ k, d < k → k < i → k < rows.length → gi (rows.getD k []) c = 0
theorem El.step {p : Int} (hp : 2 ≤ p) {m : Nat} {G : Vec → Prop} {rows : List (List Int)} {d c i : Nat} {l : Nat → Nat} {inv : Int} (h : El p m G rows d c l inv i) (hdi : d < i) (hi : i < rows.length) (hc : c < m) :
    El p m G (rows.set i (elim p (rows.getD i []) (rows.getD d []) (gi (rows.getD i []) c * inv % p))) d c l inv (i + 1) := by
  have hr := h.im.in01 i hi
  have hq := h.im.in01 d h.dl
  obtain ⟨f, hf⟩ : ∃ f, gi (rows.getD i []) c * inv % p = f := ⟨_, rfl⟩
  obtain ⟨E, hE⟩ : ∃ E, elim p (rows.getD i []) (rows.getD d []) (gi (rows.getD i []) c * inv % p) = E := ⟨_, rfl⟩
  have hEg : ∀ j, j < m → gi E j = (gi (rows.getD i []) j - f * gi (rows.getD d []) j) % p := fun j hj => by rw [← hE, hf]; exact elim_gi (by rw [hr.1]; exact hj)
  have hEl : E.length = m := by rw [← hE]; unfold elim; rw [List.length_map, List.length_range]; exact hr.1
  rw [hE]
  have hg := fun k => set_get rows i E k hi
  have hEc : gi E c = 0 := by
    rw [hEg c hc]
    have hfd := dvd_emod_sub p (gi (rows.getD i []) c * inv)
    have h1 := dvd_emod_sub p (inv * gi (rows.getD d []) c)
    rw [hf] at hfd
    rw [h.one] at h1
    refine Int.emod_eq_zero_of_dvd ?_
    obtain ⟨x, hx⟩ := hfd
    obtain ⟨y, hy⟩ := h1
    refine ⟨gi (rows.getD i []) c * y - x * gi (rows.getD d []) c, ?_⟩
    have e1 : f = p * x + gi (rows.getD i []) c * inv := by omega
    have e2 : inv * gi (rows.getD d []) c = 1 - p * y := by omega
    rw [e1]
    grind
  have hE0 : ∀ j, j < c → gi E j = 0 := fun j hj => by
    rw [hEg j (by omega), h.im.zero i j (by omega) hi hj, h.im.zero d j (Nat.le_refl _) h.dl hj]; simp
  have hEin : In01 p m E := ⟨hEl, fun j hj => by rw [hEg j hj]; exact ⟨Int.emod_nonneg _ (by omega), Int.emod_lt_of_pos _ (by omega)⟩⟩
  have hne : ∀ k, k ≠ i → (rows.set i E).getD k [] = rows.getD k [] := fun k hk => by rw [hg, if_neg hk]
  have hsame : (rows.set i E).getD i [] = E := by rw [hg, if_pos rfl]
  refine ⟨⟨fun k hk => ?_, by simpa using h.im.le, h.im.lt, h.im.inj, fun k hk => by rw [hne k (by omega)]; exact h.im.ne k hk, fun k j hk hj => by rw [hne k (by omega)]; exact h.im.low k j hk hj, fun k j hk hkl hj => ?_, fun k hk => ?_, fun g hg' => (h.im.out g hg').mono fun r hrr => ?_⟩, by simpa using h.dl, by rw [hne d (by omega)]; exact h.one, fun k hk hki hkl => ?_⟩
  · simp at hk
    by_cases e : k = i
    · subst e; rw [hsame]; exact hEin
    · rw [hne k e]; exact h.im.in01 k hk
  · simp at hkl
    by_cases e : k = i
    · subst e; rw [hsame]; exact hE0 j hj
    · rw [hne k e]; exact h.im.zero k j hk hkl hj
  · simp at hk
    by_cases e : k = i
    · subst e; rw [hsame]
      refine ((h.im.inn k hi).plus ((h.im.inn d h.dl).smul (-f))).congr fun j hj => ?_
      show p ∣ gi E j - (gi (rows.getD k []) j + -f * gi (rows.getD d []) j)
      rw [hEg j hj, show gi (rows.getD k []) j + -f * gi (rows.getD d []) j = gi (rows.getD k []) j - f * gi (rows.getD d []) j by rw [Int.neg_mul]; omega]
      exact dvd_emod_sub p _
    · rw [hne k e]; exact h.im.inn k hk
  · obtain ⟨k, hk, rfl⟩ := hrr
    have hgen : ∀ k', k' < rows.length → Sp p m (Rows (rows.set i E).length fun k => vec ((rows.set i E).getD k [])) (vec ((rows.set i E).getD k' [])) := fun k' hk' => Sp.gen ⟨k', by simpa using hk', rfl⟩
    by_cases e : k = i
    · subst e
      have h1 := hgen k hk
      have h2 := hgen d h.dl
      rw [hsame] at h1
      rw [hne d (by omega)] at h2
      refine (h1.plus (h2.smul f)).congr fun j hj => ?_
      show p ∣ gi (rows.getD k []) j - (gi E j + f * gi (rows.getD d []) j)
      rw [hEg j hj]
      have := Int.dvd_neg.2 (dvd_emod_sub p (gi (rows.getD k []) j - f * gi (rows.getD d []) j))
      rwa [show -((gi (rows.getD k []) j - f * gi (rows.getD d []) j) % p - (gi (rows.getD k []) j - f * gi (rows.getD d []) j)) = gi (rows.getD k []) j - ((gi (rows.getD k []) j - f * gi (rows.getD d []) j) % p + f * gi (rows.getD d []) j) by omega] at this
    · have h1 := hgen k hk
      rwa [hne k e] at h1
  · simp at hkl
    by_cases e : k = i
    · subst e; rw [hsame]; exact hEc
    · rw [hne k e]; exact h.done k hk (by omega) hkl
theorem El.start {p : Int} {m : Nat} {G : Vec → Prop} {rows : List (List Int)} {d c : Nat} {l : Nat → Nat} {inv : Int} (h : Im p m G rows d c l) (hd : d < rows.length) (h1 : inv * gi (rows.getD d []) c % p = 1) : El p m G rows d c l inv (d + 1) :=
  ⟨h, hd, h1, fun k hk hk2 => by omega⟩
theorem El.finish {p : Int} (hp : 2 ≤ p) {m : Nat} {G : Vec → Prop} {rows : List (List Int)} {d c : Nat} {l : Nat → Nat} {inv : Int} (h : El p m G rows d c l inv rows.length) : ∃ l', Im p m G rows (d + 1) (c + 1) l' := by
  have hne : gi (rows.getD d []) c ≠ 0 := fun h0 => by have := h.one; rw [h0] at this; simp at this
  refine ⟨fun i => if i = d then c else l i, h.im.in01, h.dl, fun i hi => ?_, fun i j hi hj he => ?_, fun i hi => ?_, fun i j hi hj => ?_, fun i j hi hil hj => ?_, h.im.inn, h.im.out⟩
  · show (if i = d then c else l i) < c + 1
    split
    · omega
    · have := h.im.lt i (by omega); omega
  · replace he : (if i = d then c else l i) = (if j = d then c else l j) := he
    split at he <;> split at he
    · omega
    · have := h.im.lt j (by omega); omega
    · have := h.im.lt i (by omega); omega
    · exact h.im.inj i j (by omega) (by omega) he
  · show gi _ (if i = d then c else l i) ≠ 0
    split
    · rename_i e; subst e; exact hne
    · exact h.im.ne i (by omega)
  · replace hj : j < (if i = d then c else l i) := hj
    split at hj
    · rename_i e; subst e; exact h.im.zero i j (Nat.le_refl _) h.dl hj
    · exact h.im.low i j (by omega) hj
  · rcases Nat.lt_succ_iff_lt_or_eq.1 hj with h' | rfl
    · exact h.im.zero i j (by omega) hil h'
    · exact h.done i (by omega) hil hil
end Rk
end Go.Proofs.Ytnhgflmmfppmnaa
