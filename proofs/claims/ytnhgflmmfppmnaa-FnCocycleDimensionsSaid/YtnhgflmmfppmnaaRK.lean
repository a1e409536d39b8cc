
/- The rank of vectors modulo a prime, plain: however vectors are brought to distinct leading places, their number is the same. -/
namespace Go.Proofs.Ytnhgflmmfppmnaa
namespace Rk

abbrev Vec := Nat → Int
/-- c 0 + .. + c (k - 1). -/
def sg (f : Nat → Int) : Nat → Int
  | 0 => 0
  | n + 1 => sg f n + f n
def IsP (p : Int) : Prop := 2 ≤ p ∧ ∀ a b : Int, p ∣ a * b → p ∣ a ∨ p ∣ b
theorem sg_dvd {p : Int} {f : Nat → Int} {k : Nat} (h : ∀ i, i < k → p ∣ f i) : p ∣ sg f k := by
  induction k with
  | zero => exact Int.dvd_zero p
  | succ k ih => exact Int.dvd_add (ih fun i hi => h i (by omega)) (h k (by omega))
theorem sg_one {p : Int} {f : Nat → Int} {k i0 : Nat} (hi : i0 < k) (h : ∀ i, i < k → i ≠ i0 → p ∣ f i) : p ∣ sg f k - f i0 := by
  induction k with
  | zero => omega
  | succ k ih =>
    by_cases e : i0 = k
    · subst e
      have := sg_dvd (p := p) (f := f) (k := i0) fun i hi => h i (by omega) (by omega)
      simp only [sg]
      rw [show sg f i0 + f i0 - f i0 = sg f i0 by omega]; exact this
    · have h1 := ih (by omega) fun i hi hn => h i (by omega) hn
      have h2 := h k (by omega) (by omega)
      simp only [sg]
      rw [show sg f k + f k - f i0 = (sg f k - f i0) + f k by omega]
      exact Int.dvd_add h1 h2
/-- v is a combination of the k rows R, on the first m places. -/
def Cmb (p : Int) (m k : Nat) (R : Nat → Vec) (v : Vec) : Prop := ∃ c : Nat → Int, ∀ j, j < m → p ∣ v j - sg (fun i => c i * R i j) k
/-- v leads at place j. -/
def Ld (p : Int) (v : Vec) (j : Nat) : Prop := ¬ p ∣ v j ∧ ∀ i, i < j → p ∣ v i
/-- k rows with distinct leading places. -/
structure Ech (p : Int) (m k : Nat) (R : Nat → Vec) (l : Nat → Nat) : Prop where
  ld : ∀ i, i < k → Ld p (R i) (l i)
  lt : ∀ i, i < k → l i < m
  inj : ∀ i j, i < k → j < k → l i = l j → i = j
theorem lead_in {p : Int} (hp : IsP p) {m k : Nat} {R : Nat → Vec} {l : Nat → Nat} (hE : Ech p m k R l) {v : Vec} (hv : Cmb p m k R v) {j : Nat} (hj : j < m) (hl : Ld p v j) : ∃ i, i < k ∧ l i = j := by
  obtain ⟨c, hc⟩ := hv
  refine Decidable.byContradiction fun hno => ?_
  have hne : ∀ i, i < k → l i ≠ j := fun i hi he => hno ⟨i, hi, he⟩
  have key : ∀ q, ∀ i, i < k → l i = q → q < j → p ∣ c i := by
    intro q
    induction q using Nat.strongRecOn with
    | _ q ih =>
      intro i hi hq hqj
      have h1 : p ∣ sg (fun i => c i * R i q) k - c i * R i q := sg_one (f := fun i => c i * R i q) hi fun i' hi' hn => by
        rcases Nat.lt_trichotomy (l i') q with h | h | h
        · exact Int.dvd_mul_of_dvd_left (ih (l i') h i' hi' rfl (by omega))
        · exact absurd (hE.inj i' i hi' hi (by omega)) hn
        · exact Int.dvd_mul_of_dvd_right ((hE.ld i' hi').2 q h)
      have h2 := hc q (by omega)
      have h3 := hl.2 q hqj
      have h4 : p ∣ sg (fun i => c i * R i q) k := by
        have := Int.dvd_sub h3 h2
        rwa [show v q - (v q - sg (fun i => c i * R i q) k) = sg (fun i => c i * R i q) k by omega] at this
      have h5 : p ∣ c i * R i q := by
        have := Int.dvd_sub h4 h1
        rwa [show sg (fun i => c i * R i q) k - (sg (fun i => c i * R i q) k - c i * R i q) = c i * R i q by omega] at this
      rcases hp.2 _ _ h5 with h | h
      · exact h
      · subst hq; exact absurd h (hE.ld i hi).1
  have h1 : p ∣ sg (fun i => c i * R i j) k := sg_dvd fun i hi => by
    rcases Nat.lt_trichotomy (l i) j with h | h | h
    · exact Int.dvd_mul_of_dvd_left (key (l i) i hi rfl h)
    · exact absurd h (hne i hi)
    · exact Int.dvd_mul_of_dvd_right ((hE.ld i hi).2 j h)
  have h2 := Int.dvd_add (hc j hj) h1
  rw [show v j - sg (fun i => c i * R i j) k + sg (fun i => c i * R i j) k = v j by omega] at h2
  exact hl.1 h2
/-! ### spans -/
/-- The span of a set of vectors, on the first m places. -/
inductive Sp (p : Int) (m : Nat) (G : Vec → Prop) : Vec → Prop
  | zero (v : Vec) : (∀ j, j < m → p ∣ v j) → Sp p m G v
  | add (g u v : Vec) (c : Int) : G g → Sp p m G u → (∀ j, j < m → p ∣ v j - (u j + c * g j)) → Sp p m G v
section
variable {p : Int} {m : Nat} {G H : Vec → Prop}
theorem Sp.congr {u v : Vec} (h : Sp p m G u) (e : ∀ j, j < m → p ∣ v j - u j) : Sp p m G v := by
  cases h with
  | zero _ hz => exact .zero v fun j hj => by have := Int.dvd_add (e j hj) (hz j hj); rwa [show v j - u j + u j = v j by omega] at this
  | add g u' _ c hg hu hs => exact .add g u' v c hg hu fun j hj => by have := Int.dvd_add (e j hj) (hs j hj); rwa [show v j - u j + (u j - (u' j + c * g j)) = v j - (u' j + c * g j) by omega] at this
theorem Sp.gen {g : Vec} (h : G g) : Sp p m G g := .add g (fun _ => 0) g 1 h (.zero _ fun _ _ => Int.dvd_zero _) fun j _ => by simp
theorem Sp.plus {u v : Vec} (hu : Sp p m G u) (hv : Sp p m G v) : Sp p m G (fun j => u j + v j) := by
  induction hu with
  | zero u hz => exact hv.congr fun j hj => by have := hz j hj; rwa [show u j + v j - v j = u j by omega]
  | add g u' u c hg _ hs ih => exact .add g _ _ c hg ih fun j hj => by have := hs j hj; rwa [show u j + v j - (u' j + v j + c * g j) = u j - (u' j + c * g j) by omega]
theorem Sp.smul {u : Vec} (a : Int) (hu : Sp p m G u) : Sp p m G (fun j => a * u j) := by
  induction hu with
  | zero u hz => exact .zero _ fun j hj => Int.dvd_mul_of_dvd_right (hz j hj)
  | add g u' u c hg _ hs ih =>
    refine .add g _ _ (a * c) hg ih fun j hj => ?_
    have : p ∣ a * (u j - (u' j + c * g j)) := Int.dvd_mul_of_dvd_right (hs j hj)
    rwa [show a * (u j - (u' j + c * g j)) = a * u j - (a * u' j + a * c * g j) by rw [Int.mul_sub, Int.mul_add, Int.mul_assoc]] at this
theorem Sp.mono {u : Vec} (hu : Sp p m G u) (h : ∀ g, G g → Sp p m H g) : Sp p m H u := by
  induction hu with
  | zero u hz => exact .zero _ hz
  | add g u' u c hg _ hs ih => exact (ih.plus ((h g hg).smul c)).congr hs
theorem Sp.sum {R : Nat → Vec} {c : Nat → Int} {k : Nat} (h : ∀ i, i < k → Sp p m G (R i)) : Sp p m G (fun j => sg (fun i => c i * R i j) k) := by
  induction k with
  | zero => exact .zero _ fun _ _ => Int.dvd_zero _
  | succ k ih => exact (ih fun i hi => h i (by omega)).plus ((h k (by omega)).smul (c k))
theorem Cmb.sp {R : Nat → Vec} {k : Nat} {v : Vec} (h : Cmb p m k R v) (hR : ∀ i, i < k → Sp p m G (R i)) : Sp p m G v := by
  obtain ⟨c, hc⟩ := h
  exact (Sp.sum (c := c) hR).congr hc
/-- The set of the first k rows. -/
def Rows (k : Nat) (R : Nat → Vec) : Vec → Prop := fun v => ∃ i, i < k ∧ v = R i
theorem Sp.cmb {R : Nat → Vec} {k : Nat} {v : Vec} (h : Sp p m (Rows k R) v) : Cmb p m k R v := by
  induction h with
  | zero v hz => exact ⟨fun _ => 0, fun j hj => by
      have : sg (fun i => 0 * R i j) k = 0 := by
        have key : ∀ k, sg (fun i => 0 * R i j) k = 0 := by intro k; induction k with | zero => rfl | succ k ih => simp only [sg, ih]; omega
        exact key k
      rw [this]; simpa using hz j hj⟩
  | add g u v c hg _ hs ih =>
    obtain ⟨i0, hi0, rfl⟩ := hg
    obtain ⟨d, hd⟩ := ih
    refine ⟨fun i => if i = i0 then d i + c else d i, fun j hj => ?_⟩
    have key : ∀ k, sg (fun i => (if i = i0 then d i + c else d i) * R i j) k = sg (fun i => d i * R i j) k + if i0 < k then c * R i0 j else 0 := by
      intro k
      induction k with
      | zero => simp [sg]
      | succ k ih =>
        simp only [sg, ih]
        by_cases e : k = i0
        · subst e
          rw [if_neg (Nat.lt_irrefl _), if_pos rfl, if_pos (by omega), Int.add_mul]; omega
        · rw [if_neg e]
          by_cases h : i0 < k
          · rw [if_pos h, if_pos (by omega)]; omega
          · rw [if_neg h, if_neg (by omega)]; omega
    rw [key, if_pos hi0]
    have h1 := Int.dvd_add (hs j hj) (hd j hj)
    rwa [show v j - (u j + c * R i0 j) + (u j - sg (fun i => d i * R i j) k) = v j - (sg (fun i => d i * R i j) k + c * R i0 j) by omega] at h1
end
/-! ### the rank -/
/-- k vectors with distinct leading places span what G spans. -/
def HasRk (p : Int) (m : Nat) (G : Vec → Prop) (k : Nat) : Prop := ∃ R l, Ech p m k R l ∧ (∀ g, G g → Sp p m (Rows k R) g) ∧ (∀ i, i < k → Sp p m G (R i))
theorem nodup_le {α : Type} [DecidableEq α] : ∀ (a b : List α), a.Nodup → (∀ x ∈ a, x ∈ b) → a.length ≤ b.length := by
  intro a
  induction a with
  | nil => intro b _ _; simp
  | cons x r ih =>
    intro b hn hs
    have hx := hs x (by simp)
    have h1 := ih (b.erase x) (List.nodup_cons.1 hn).2 fun y hy => (List.mem_erase_of_ne (fun e => by subst e; exact (List.nodup_cons.1 hn).1 hy)).2 (hs y (by simp [hy]))
    rw [List.length_erase_of_mem hx] at h1
    have : 0 < b.length := List.length_pos_of_mem hx
    simp; omega
theorem rk_le {p : Int} (hp : IsP p) {m : Nat} {G H : Vec → Prop} {k k' : Nat} (h : HasRk p m G k) (h' : HasRk p m H k') (hGH : ∀ g, G g → Sp p m H g) : k ≤ k' := by
  obtain ⟨R, l, hE, _, h2⟩ := h
  obtain ⟨R', l', hE', h1', _⟩ := h'
  have hsub : ∀ i, i < k → ∃ i', i' < k' ∧ l' i' = l i := fun i hi => lead_in hp hE' (((h2 i hi).mono hGH).mono h1').cmb (hE.lt i hi) (hE.ld i hi)
  have := nodup_le ((List.range k).map l) ((List.range k').map l') (by
    unfold List.Nodup
    rw [List.pairwise_map]
    refine List.Pairwise.imp_of_mem (fun {a b} ha hb hab he => hab (hE.inj a b (List.mem_range.1 ha) (List.mem_range.1 hb) he)) (List.nodup_range (n := k))) (fun x hx => by
    obtain ⟨i, hi, rfl⟩ := List.mem_map.1 hx
    obtain ⟨i', h1, h2⟩ := hsub i (List.mem_range.1 hi)
    exact List.mem_map.2 ⟨i', List.mem_range.2 h1, h2⟩)
  simpa using this
theorem rk_eq {p : Int} (hp : IsP p) {m : Nat} {G H : Vec → Prop} {k k' : Nat} (h : HasRk p m G k) (h' : HasRk p m H k') (hGH : ∀ g, G g → Sp p m H g) (hHG : ∀ g, H g → Sp p m G g) : k = k' :=
  Nat.le_antisymm (rk_le hp h h' hGH) (rk_le hp h' h hHG)
end Rk
end Go.Proofs.Ytnhgflmmfppmnaa
