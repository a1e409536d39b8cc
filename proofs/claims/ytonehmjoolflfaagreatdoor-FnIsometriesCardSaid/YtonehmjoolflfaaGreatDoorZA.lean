
/- A box holds few points of a lattice whose basis is short; the linear congruential sequence modulo 2^57 takes no state twice within 2^57 steps, and a pattern of three draws modulo 6 is seldom. -/
set_option linter.unusedSimpArgs false
set_option linter.unusedVariables false
namespace Go.Proofs.YtonehmjoolflfaaGreatDoor.Zl

/-- The number of n below N with p. -/
def cnt (p : Nat → Bool) : Nat → Nat
  | 0 => 0
  | n + 1 => cnt p n + (if p n then 1 else 0)

theorem cnt_enum (p : Nat → Bool) (N : Nat) : ∃ e : Nat → Nat, (∀ i, i < cnt p N → e i < N ∧ p (e i) = true) ∧ ∀ i j, i < cnt p N → j < cnt p N → e i = e j → i = j := by
  induction N with
  | zero => exact ⟨fun _ => 0, fun i h => by simp [cnt] at h, fun i j h => by simp [cnt] at h⟩
  | succ N ih =>
    obtain ⟨e, h1, h2⟩ := ih
    by_cases hp : p N = true
    · refine ⟨fun i => if i = cnt p N then N else e i, ?_, ?_⟩
      · intro i hi
        simp only [cnt, hp, if_true] at hi
        by_cases he : i = cnt p N
        · simp only [he, if_true]; exact ⟨by omega, hp⟩
        · simp only [he, if_false]
          have := h1 i (by omega)
          exact ⟨by omega, this.2⟩
      · intro i j hi hj hij
        simp only [cnt, hp, if_true] at hi hj
        by_cases he : i = cnt p N
        · by_cases hf : j = cnt p N
          · omega
          · simp only [he, hf, if_true, if_false] at hij
            have := (h1 j (by omega)).1
            omega
        · by_cases hf : j = cnt p N
          · simp only [he, hf, if_true, if_false] at hij
            have := (h1 i (by omega)).1
            omega
          · simp only [he, hf, if_false] at hij
            exact h2 i j (by omega) (by omega) hij
    · refine ⟨e, ?_, ?_⟩
      · intro i hi
        simp only [cnt, hp] at hi
        have := h1 i (by simpa using hi)
        exact ⟨by omega, this.2⟩
      · intro i j hi hj
        simp only [cnt, hp] at hi hj
        exact h2 i j (by simpa using hi) (by simpa using hj)

theorem pig (K : Nat) : ∀ (N : Nat) (f : Nat → Nat), (∀ i, i < N → f i < K) → (∀ i j, i < N → j < N → f i = f j → i = j) → N ≤ K := by
  induction K with
  | zero =>
    intro N f hf _
    cases N with
    | zero => exact Nat.le_refl _
    | succ N => exact absurd (hf 0 (by omega)) (by omega)
  | succ K ih =>
    intro N f hf inj
    by_cases hx : ∃ i, i < N ∧ f i = K
    · obtain ⟨i, hi, hfi⟩ := hx
      have := ih (N - 1) (fun j => if j = i then f (N - 1) else f j) ?_ ?_
      · omega
      · intro j hj
        show (if j = i then f (N - 1) else f j) < K
        by_cases e : j = i
        · rw [if_pos e]
          have h1 := hf (N - 1) (by omega)
          have h2 : f (N - 1) ≠ K := fun h => by
            have := inj (N - 1) i (by omega) hi (by rw [h, hfi]); omega
          omega
        · rw [if_neg e]
          have h1 := hf j (by omega)
          have h2 : f j ≠ K := fun h => e (inj j i (by omega) hi (by rw [h, hfi]))
          omega
      · intro j k hj hk
        show (if j = i then f (N - 1) else f j) = (if k = i then f (N - 1) else f k) → j = k
        intro h
        by_cases e : j = i
        · by_cases g : k = i
          · omega
          · rw [if_pos e, if_neg g] at h
            have := inj (N - 1) k (by omega) (by omega) h; omega
        · by_cases g : k = i
          · rw [if_neg e, if_pos g] at h
            have := inj j (N - 1) (by omega) (by omega) h; omega
          · rw [if_neg e, if_neg g] at h
            exact inj j k (by omega) (by omega) h
    · have := ih N f ?_ inj
      · omega
      · intro i hi
        have h1 := hf i hi
        have h2 : f i ≠ K := fun h => hx ⟨i, hi, h⟩
        omega

/-- Sums. -/
def sm (f : Nat → Int) : Nat → Int
  | 0 => 0
  | n + 1 => sm f n + f n
theorem sm_add (f g : Nat → Int) (n : Nat) : sm (fun i => f i + g i) n = sm f n + sm g n := by
  induction n with
  | zero => rfl
  | succ n ih => simp only [sm, ih]; omega
theorem sm_mul (c : Int) (f : Nat → Int) (n : Nat) : sm (fun i => c * f i) n = c * sm f n := by
  induction n with
  | zero => simp [sm]
  | succ n ih => simp only [sm, ih, Int.mul_add]
theorem sm_mulr (c : Int) (f : Nat → Int) (n : Nat) : sm (fun i => f i * c) n = sm f n * c := by
  induction n with
  | zero => simp [sm]
  | succ n ih => simp only [sm, ih, Int.add_mul]
theorem sm_cong {f g : Nat → Int} {n : Nat} (h : ∀ i, i < n → f i = g i) : sm f n = sm g n := by
  induction n with
  | zero => rfl
  | succ n ih => simp only [sm]; rw [ih fun i hi => h i (by omega), h n (by omega)]
theorem sm_zero (n : Nat) : sm (fun _ => 0) n = 0 := by
  induction n with
  | zero => rfl
  | succ n ih => simp only [sm, ih]; rfl
theorem sm_swap (f : Nat → Nat → Int) (m n : Nat) : sm (fun i => sm (fun j => f i j) n) m = sm (fun j => sm (fun i => f i j) m) n := by
  induction m with
  | zero => simp only [sm]; exact (sm_zero n).symm
  | succ m ih => simp only [sm, ih, ← sm_add]
theorem sm_le {f g : Nat → Int} {n : Nat} (h : ∀ i, i < n → f i ≤ g i) : sm f n ≤ sm g n := by
  induction n with
  | zero => exact Int.le_refl _
  | succ n ih =>
    have h1 := ih fun i hi => h i (by omega)
    have h2 := h n (by omega)
    simp only [sm]; omega

/-- A row times a matrix. -/
def vm (n : Nat) (z : Nat → Int) (B : Nat → Nat → Int) (j : Nat) : Int := sm (fun i => z i * B i j) n
theorem vm_vm (n : Nat) (z : Nat → Int) (B C : Nat → Nat → Int) (j : Nat) : vm n (vm n z B) C j = vm n z (fun i j => vm n (B i) C j) j := by
  unfold vm
  rw [show sm (fun i => sm (fun i_1 => z i_1 * B i_1 i) n * C i j) n = sm (fun i => sm (fun l => z l * B l i * C i j) n) n from sm_cong fun i _ => (sm_mulr _ _ _).symm]
  rw [sm_swap]
  refine sm_cong fun l _ => ?_
  rw [← sm_mul]
  exact sm_cong fun i _ => Int.mul_assoc _ _ _
theorem vm_add (n : Nat) (y z : Nat → Int) (B : Nat → Nat → Int) (j : Nat) : vm n (fun i => y i + z i) B j = vm n y B j + vm n z B j := by
  unfold vm
  rw [← sm_add]; exact sm_cong fun i _ => Int.add_mul _ _ _
theorem vm_mul (n : Nat) (c : Int) (z : Nat → Int) (B : Nat → Nat → Int) (j : Nat) : vm n (fun i => c * z i) B j = c * vm n z B j := by
  unfold vm
  rw [← sm_mul]; exact sm_cong fun i _ => Int.mul_assoc _ _ _

/-- The part of a column above 0, and below 0. -/
def pos (B : Nat → Nat → Int) (n j : Nat) : Int := sm (fun i => if 0 ≤ B i j then B i j else 0) n
def neg (B : Nat → Nat → Int) (n j : Nat) : Int := sm (fun i => if 0 ≤ B i j then 0 else - B i j) n
theorem vm_bound {n : Nat} {t : Nat → Int} {h : Int} (B : Nat → Nat → Int) (j : Nat) (ht : ∀ i, i < n → 0 ≤ t i ∧ t i ≤ h) : - (h * neg B n j) ≤ vm n t B j ∧ vm n t B j ≤ h * pos B n j := by
  unfold vm pos neg
  rw [← sm_mul, ← sm_mul]
  constructor
  · have hq := sm_mul (-1) (fun i => h * if 0 ≤ B i j then 0 else -B i j) n
    rw [show - sm (fun i => h * if 0 ≤ B i j then 0 else -B i j) n = sm (fun i => (-1) * (h * if 0 ≤ B i j then 0 else -B i j)) n by rw [hq]; omega]
    refine sm_le fun i hi => ?_
    obtain ⟨a, b⟩ := ht i hi
    by_cases c : 0 ≤ B i j
    · rw [if_pos c]; have := Int.mul_nonneg a c; simpa using this
    · rw [if_neg c]
      have := Int.mul_le_mul_of_nonneg_right b (show 0 ≤ - B i j by omega)
      rw [Int.mul_neg, Int.mul_neg] at this
      rw [Int.mul_neg]; omega
  · refine sm_le fun i hi => ?_
    obtain ⟨a, b⟩ := ht i hi
    by_cases c : 0 ≤ B i j
    · rw [if_pos c]; exact Int.mul_le_mul_of_nonneg_right b c
    · rw [if_neg c]
      have := Int.mul_nonneg a (show 0 ≤ - B i j by omega)
      rw [Int.mul_neg] at this; omega

theorem radix {a a' b b' K : Nat} (hb : b < K) (hb' : b' < K) (h : a * K + b = a' * K + b') : a = a' ∧ b = b' := by
  have h1 : (a * K + b) / K = a := by rw [Nat.mul_comm, Nat.mul_add_div (by omega)]; rw [Nat.div_eq_of_lt hb]; omega
  have h2 : (a' * K + b') / K = a' := by rw [Nat.mul_comm, Nat.mul_add_div (by omega)]; rw [Nat.div_eq_of_lt hb']; omega
  rw [h] at h1
  have : a = a' := h1.symm.trans h2
  subst this
  exact ⟨rfl, by omega⟩
theorem radix_lt {a b K L : Nat} (ha : a < L) (hb : b < K) : a * K + b < L * K := by
  have : (a + 1) * K ≤ L * K := Nat.mul_le_mul_right _ ha
  rw [Nat.add_mul] at this; omega

/-- What a short basis of the lattice must satisfy. -/
structure Good (M T : Int) (a1 a2 : Int) (B U C : Nat → Nat → Int) (B0 : Nat → Nat → Int) (d : Int) : Prop where
  hd : d ≠ 0
  hM : 0 < M
  hT : 0 < T
  ub : ∀ i, i < 6 → ∀ j, j < 6 → vm 6 (U i) B j = B0 i j
  bc : ∀ i, i < 6 → ∀ j, j < 6 → vm 6 (B i) C j = if i = j then d else 0
  e1 : ∀ i, i < 6 → M ∣ B i 1 - a1 * B i 0
  e2 : ∀ i, i < 6 → M ∣ B i 2 - a2 * B i 0
  e3 : ∀ i, i < 6 → T ∣ B i 3 - B i 0
  e4 : ∀ i, i < 6 → T ∣ B i 4 - B i 1
  e5 : ∀ i, i < 6 → T ∣ B i 5 - B i 2

theorem sm_dvd {M : Int} {f : Nat → Int} {n : Nat} (h : ∀ i, i < n → M ∣ f i) : M ∣ sm f n := by
  induction n with
  | zero => exact Int.dvd_zero _
  | succ n ih => exact Int.dvd_add (ih fun i hi => h i (by omega)) (h n (by omega))
theorem vm_dvd {M c : Int} {n : Nat} {z : Nat → Int} {B : Nat → Nat → Int} {i j : Nat} (h : ∀ l, l < n → M ∣ B l j - c * B l i) : M ∣ vm n z B j - c * vm n z B i := by
  have e : vm n z B j - c * vm n z B i = sm (fun l => z l * (B l j - c * B l i)) n := by
    unfold vm
    have h1 := sm_mul c (fun l => z l * B l i) n
    have h2 := sm_add (fun l => z l * (B l j - c * B l i)) (fun l => c * (z l * B l i)) n
    rw [h1] at h2
    have h3 : sm (fun l => z l * (B l j - c * B l i) + c * (z l * B l i)) n = sm (fun l => z l * B l j) n := sm_cong fun l _ => by
      rw [Int.mul_sub, ← Int.mul_assoc, ← Int.mul_assoc, Int.mul_comm (z l) c]; omega
    omega
  rw [e]
  exact sm_dvd fun l hl => Int.dvd_trans (h l hl) (Int.dvd_mul_left _ _)
theorem vm_one {T : Int} {n : Nat} {z : Nat → Int} {B : Nat → Nat → Int} {i j : Nat} (h : ∀ l, l < n → T ∣ B l j - B l i) : T ∣ vm n z B j - vm n z B i := by
  have := vm_dvd (M := T) (c := 1) (n := n) (z := z) (B := B) (i := i) (j := j) (fun l hl => by rw [Int.one_mul]; exact h l hl)
  rwa [Int.one_mul] at this

theorem same_quot {M x y l : Int} (hM : 0 < M) (hx : 0 ≤ x - l) (hy : 0 ≤ y - l) (hd : M ∣ x - y) (hq : ((x - l) / M).toNat = ((y - l) / M).toNat) : x = y := by
  have h1 := Int.ediv_nonneg hx (Int.le_of_lt hM)
  have h2 := Int.ediv_nonneg hy (Int.le_of_lt hM)
  have h3 : (x - l) / M = (y - l) / M := by omega
  have h4 : (x - l) % M = (y - l) % M := by
    rw [Int.emod_emod_of_dvd _ (Int.dvd_refl M) |>.symm]
    refine Int.emod_eq_emod_iff_emod_sub_eq_zero.mpr ?_ |>.symm ▸ rfl
    exact Int.emod_eq_zero_of_dvd (by rw [show (x - l) % M - (y - l) = (x - y) - M * ((x - l) / M) by have := Int.emod_add_mul_ediv (x - l) M; omega]; exact Int.dvd_sub hd (Int.dvd_mul_right _ _))
  have h5 := Int.emod_add_mul_ediv (x - l) M
  have h6 := Int.emod_add_mul_ediv (y - l) M
  rw [h3, h4] at h5
  omega

theorem sm_pick {l n : Nat} (hl : l < n) (c : Int) : sm (fun i => if i = l then c else 0) n = c := by
  induction n with
  | zero => omega
  | succ n ih =>
    simp only [sm]
    by_cases e : l = n
    · subst e
      rw [if_pos rfl, show sm (fun i => if i = l then c else 0) l = sm (fun _ => 0) l from sm_cong fun i hi => if_neg (by omega), sm_zero]; omega
    · rw [if_neg (by omega), ih (by omega)]; omega
/-- Six places in mixed radix. -/
def mix (d K : Nat → Nat) : Nat := ((((d 0 * K 1 + d 1) * K 2 + d 2) * K 3 + d 3) * K 4 + d 4) * K 5 + d 5
theorem mix_lt {d K : Nat → Nat} (h : ∀ j, j < 6 → d j < K j) : mix d K < K 0 * K 1 * K 2 * K 3 * K 4 * K 5 :=
  radix_lt (radix_lt (radix_lt (radix_lt (radix_lt (h 0 (by omega)) (h 1 (by omega))) (h 2 (by omega))) (h 3 (by omega))) (h 4 (by omega))) (h 5 (by omega))
theorem mix_inj {d d' K : Nat → Nat} (h : ∀ j, j < 6 → d j < K j) (h' : ∀ j, j < 6 → d' j < K j) (e : mix d K = mix d' K) : ∀ j, j < 6 → d j = d' j := by
  obtain ⟨e4, e5⟩ := radix (h 5 (by omega)) (h' 5 (by omega)) e
  obtain ⟨e3, e4⟩ := radix (h 4 (by omega)) (h' 4 (by omega)) e4
  obtain ⟨e2, e3⟩ := radix (h 3 (by omega)) (h' 3 (by omega)) e3
  obtain ⟨e1, e2⟩ := radix (h 2 (by omega)) (h' 2 (by omega)) e2
  obtain ⟨e0, e1⟩ := radix (h 1 (by omega)) (h' 1 (by omega)) e1
  intro j hj
  match j, hj with
  | 0, _ => exact e0
  | 1, _ => exact e1
  | 2, _ => exact e2
  | 3, _ => exact e3
  | 4, _ => exact e4
  | 5, _ => exact e5
  | j + 6, h => omega

/-- The digits of a number. -/
def dg (H m : Nat) : Nat → Nat
  | 0 => m % H
  | i + 1 => dg H (m / H) i
def tl (H m : Nat) : Nat → Nat
  | 0 => m
  | i + 1 => tl H (m / H) i
theorem dg_inj {H : Nat} : ∀ (k m m' : Nat), (∀ i, i < k → dg H m i = dg H m' i) → tl H m k = tl H m' k → m = m' := by
  intro k
  induction k with
  | zero => intro m m' _ h; exact h
  | succ k ih =>
    intro m m' h ht
    have h0 := h 0 (by omega)
    have h1 := ih (m / H) (m' / H) (fun i hi => h (i + 1) (by omega)) ht
    have a := Nat.mod_add_div m H
    have b := Nat.mod_add_div m' H
    simp only [dg] at h0
    rw [h0, h1] at a
    omega
theorem dg_lt {H : Nat} (hH : 0 < H) : ∀ (i m : Nat), dg H m i < H := by
  intro i
  induction i with
  | zero => intro m; exact Nat.mod_lt _ hH
  | succ i ih => intro m; exact ih _
theorem tl_lt {H N : Nat} (hH : 0 < H) : ∀ (k m : Nat), m < N * H ^ k → tl H m k < N := by
  intro k
  induction k with
  | zero => intro m h; simpa [tl] using h
  | succ k ih =>
    intro m h
    refine ih (m / H) ?_
    rw [Nat.div_lt_iff_lt_mul hH, Nat.mul_assoc, ← Nat.pow_succ]; exact h

theorem pack {M T a1 a2 d : Int} {B U C B0 : Nat → Nat → Int} (hg : Good M T a1 a2 B U C B0 d) (N H : Nat) (hH : 0 < H) (g : Nat → Nat → Int) (y : Nat → Nat → Int) (cc lo : Nat → Int) (side : Nat → Int)
    (hy : ∀ i, i < N → ∀ j, j < 6 → g i j - cc j = vm 6 (y i) B0 j)
    (hr : ∀ i, i < N → ∀ j, j < 6 → lo j ≤ g i j ∧ g i j < lo j + side j)
    (hinj : ∀ i i', i < N → i' < N → (∀ j, j < 6 → g i j = g i' j) → i = i')
    (K : Nat → Nat) (hK0 : (H : Int) * side 0 + (H : Int) * (pos B 6 0 + neg B 6 0) ≤ K 0)
    (hK : ∀ j, 1 ≤ j → j < 6 → (H : Int) * side j + (H : Int) * (pos B 6 j + neg B 6 j) ≤ (if j < 3 then M else T) * ((K j : Int) - 1)) :
    N * H ^ 6 ≤ K 0 * K 1 * K 2 * K 3 * K 4 * K 5 := by
  -- the coordinates in the basis B
  let k : Nat → Nat → Int := fun i => vm 6 (y i) U
  have hk : ∀ i, i < N → ∀ j, j < 6 → vm 6 (k i) B j = g i j - cc j := by
    intro i hi j hj
    rw [hy i hi j hj]
    show vm 6 (vm 6 (y i) U) B j = _
    rw [vm_vm]
    exact sm_cong fun l hl => by show y i l * vm 6 (U l) B j = _; rw [hg.ub l hl j hj]
  let z : Nat → Nat → Int := fun m l => H * k (tl H m 6) l + dg H m l
  let G : Nat → Nat → Int := fun m j => vm 6 (z m) B j
  have hG : ∀ m, m < N * H ^ 6 → ∀ j, j < 6 → H * (lo j - cc j) - H * neg B 6 j ≤ G m j ∧ G m j < H * (lo j - cc j) - H * neg B 6 j + (H * side j + H * (pos B 6 j + neg B 6 j)) := by
    intro m hm j hj
    have hi := tl_lt hH 6 m hm
    have e : G m j = H * (g (tl H m 6) j - cc j) + vm 6 (fun l => (dg H m l : Int)) B j := by
      show vm 6 (fun l => H * k (tl H m 6) l + dg H m l) B j = _
      rw [vm_add 6 (fun l => H * k (tl H m 6) l) (fun l => (dg H m l : Int)), vm_mul, hk _ hi j hj]
    obtain ⟨r1, r2⟩ := hr _ hi j hj
    obtain ⟨b1, b2⟩ := vm_bound (n := 6) (t := fun l => (dg H m l : Int)) (h := (H : Int) - 1) B j (fun l _ => ⟨by omega, by have := dg_lt hH l m; omega⟩)
    have p1 : 0 ≤ pos B 6 j := by
      have := sm_le (f := fun _ => 0) (g := fun i => if 0 ≤ B i j then B i j else 0) (n := 6) (fun i _ => by by_cases c : 0 ≤ B i j <;> simp [c])
      rw [sm_zero] at this; exact this
    have p2 : 0 ≤ neg B 6 j := by
      have := sm_le (f := fun _ => 0) (g := fun i => if 0 ≤ B i j then 0 else - B i j) (n := 6) (fun i _ => by by_cases c : 0 ≤ B i j <;> simp [c]; omega)
      rw [sm_zero] at this; exact this
    have hH' : (0 : Int) < H := by omega
    have m1 : (H : Int) * lo j ≤ H * g (tl H m 6) j := Int.mul_le_mul_of_nonneg_left r1 (by omega)
    have m2 : (H : Int) * g (tl H m 6) j ≤ H * (lo j + side j - 1) := Int.mul_le_mul_of_nonneg_left (by omega) (by omega)
    rw [Int.sub_mul, Int.one_mul] at b1 b2
    rw [Int.mul_sub, Int.mul_add, Int.mul_one] at m2
    rw [e, Int.mul_sub, Int.mul_sub, Int.mul_add]
    omega
  have hKp : ∀ j, j < 6 → ∀ x, H * (lo j - cc j) - H * neg B 6 j ≤ x → x < H * (lo j - cc j) - H * neg B 6 j + (H * side j + H * (pos B 6 j + neg B 6 j)) → 1 ≤ j →
      ((x - (H * (lo j - cc j) - H * neg B 6 j)) / (if j < 3 then M else T)).toNat < K j := by
    intro j hj x h1 h2 h3
    have hp : 0 < (if j < 3 then M else T) := by by_cases c : j < 3 <;> simp [c, hg.hM, hg.hT]
    have h4 := hK j h3 hj
    generalize (if j < 3 then M else T) = W at hp h4 ⊢
    have h5 : (x - (H * (lo j - cc j) - H * neg B 6 j)) / W < (K j : Int) := by
      refine Int.ediv_lt_of_lt_mul hp ?_
      have h6 : W * ((K j : Int) - 1) = (K j : Int) * W - W := by rw [Int.mul_sub, Int.mul_one, Int.mul_comm]
      omega
    have := Int.ediv_nonneg (show 0 ≤ x - (H * (lo j - cc j) - H * neg B 6 j) by omega) (Int.le_of_lt hp)
    omega
  let D : Nat → Nat → Nat := fun m j => if j = 0 then (G m 0 - (H * (lo 0 - cc 0) - H * neg B 6 0)).toNat else ((G m j - (H * (lo j - cc j) - H * neg B 6 j)) / (if j < 3 then M else T)).toNat
  have hD : ∀ m, m < N * H ^ 6 → ∀ j, j < 6 → D m j < K j := by
    intro m hm j hj
    obtain ⟨h1, h2⟩ := hG m hm j hj
    by_cases e : j = 0
    · subst e
      show (if (0 : Nat) = 0 then _ else _) < K 0
      rw [if_pos rfl]
      omega
    · show (if j = 0 then _ else _) < K j
      rw [if_neg e]
      exact hKp j hj _ h1 h2 (by omega)
  refine pig _ _ (fun m => mix (D m) K) (fun m hm => mix_lt (hD m hm)) ?_
  intro m m' hm hm' hmm
  have hDD := mix_inj (hD m hm) (hD m' hm') hmm
  have s0 : G m 0 = G m' 0 := by
    have h := hDD 0 (by omega)
    have h1 := (hG m hm 0 (by omega)).1
    have h2 := (hG m' hm' 0 (by omega)).1
    change (if (0 : Nat) = 0 then _ else _) = (if (0 : Nat) = 0 then _ else _) at h
    rw [if_pos rfl, if_pos rfl] at h
    omega
  have sj : ∀ j, 1 ≤ j → j < 6 → (if j < 3 then M else T) ∣ G m j - G m' j → G m j = G m' j := by
    intro j h1 hj hd
    have h := hDD j hj
    change (if j = 0 then _ else _) = (if j = 0 then _ else _) at h
    have hj0 : ¬ j = 0 := by omega
    rw [if_neg hj0, if_neg hj0] at h
    have hp : 0 < (if j < 3 then M else T) := by by_cases c : j < 3 <;> simp [c, hg.hM, hg.hT]
    have a1 := (hG m hm j hj).1
    have a2 := (hG m' hm' j hj).1
    exact same_quot hp (Int.sub_nonneg.mpr a1) (Int.sub_nonneg.mpr a2) hd h
  have s1 : G m 1 = G m' 1 := by
    refine sj 1 (by omega) (by omega) ?_
    rw [if_pos (by omega)]
    have h1 := vm_dvd (z := z m) (n := 6) hg.e1
    have h2 := vm_dvd (z := z m') (n := 6) hg.e1
    have h3 := Int.dvd_sub h1 h2
    change M ∣ (G m 1 - a1 * G m 0) - (G m' 1 - a1 * G m' 0) at h3
    rw [s0] at h3
    rwa [show (G m 1 - a1 * G m' 0) - (G m' 1 - a1 * G m' 0) = G m 1 - G m' 1 by omega] at h3
  have s2 : G m 2 = G m' 2 := by
    refine sj 2 (by omega) (by omega) ?_
    rw [if_pos (by omega)]
    have h1 := vm_dvd (z := z m) (n := 6) hg.e2
    have h2 := vm_dvd (z := z m') (n := 6) hg.e2
    have h3 := Int.dvd_sub h1 h2
    change M ∣ (G m 2 - a2 * G m 0) - (G m' 2 - a2 * G m' 0) at h3
    rw [s0] at h3
    rwa [show (G m 2 - a2 * G m' 0) - (G m' 2 - a2 * G m' 0) = G m 2 - G m' 2 by omega] at h3
  have st : ∀ j l, 3 ≤ j → j < 6 → G m l = G m' l → (∀ i, i < 6 → T ∣ B i j - B i l) → G m j = G m' j := by
    intro j l h1 hj e he
    refine sj j (by omega) hj ?_
    rw [if_neg (by omega)]
    have h1 := vm_one (z := z m) (n := 6) he
    have h2 := vm_one (z := z m') (n := 6) he
    have h3 := Int.dvd_sub h1 h2
    change T ∣ (G m j - G m l) - (G m' j - G m' l) at h3
    rw [e] at h3
    rwa [show (G m j - G m' l) - (G m' j - G m' l) = G m j - G m' j by omega] at h3
  have s3 := st 3 0 (by omega) (by omega) s0 hg.e3
  have s4 := st 4 1 (by omega) (by omega) s1 hg.e4
  have s5 := st 5 2 (by omega) (by omega) s2 hg.e5
  have sG : ∀ j, j < 6 → G m j = G m' j := by
    intro j hj
    match j, hj with
    | 0, _ => exact s0
    | 1, _ => exact s1
    | 2, _ => exact s2
    | 3, _ => exact s3
    | 4, _ => exact s4
    | 5, _ => exact s5
    | j + 6, h => omega
  have zb : ∀ m l, l < 6 → vm 6 (G m) C l = d * z m l := by
    intro m l hl
    show vm 6 (vm 6 (z m) B) C l = _
    rw [vm_vm]
    have : vm 6 (z m) (fun i j => vm 6 (B i) C j) l = sm (fun i => if i = l then d * z m l else 0) 6 := sm_cong fun i hi => by
      show z m i * vm 6 (B i) C l = _
      rw [hg.bc i hi l hl]
      by_cases e : i = l
      · rw [if_pos e, if_pos e, e, Int.mul_comm]
      · rw [if_neg e, if_neg e, Int.mul_zero]
    rw [this]; exact sm_pick hl _
  have zz : ∀ l, l < 6 → z m l = z m' l := by
    intro l hl
    have h1 := zb m l hl
    have h2 := zb m' l hl
    have h3 : vm 6 (G m) C l = vm 6 (G m') C l := sm_cong fun i hi => by rw [sG i hi]
    rw [h1, h2] at h3
    exact Int.eq_of_mul_eq_mul_left hg.hd h3
  have both : ∀ l, l < 6 → dg H m l = dg H m' l ∧ k (tl H m 6) l = k (tl H m' 6) l := by
    intro l hl
    have h := zz l hl
    change (H : Int) * k (tl H m 6) l + dg H m l = H * k (tl H m' 6) l + dg H m' l at h
    have d1 := dg_lt hH l m
    have d2 := dg_lt hH l m'
    have q1 : ((H : Int) * k (tl H m 6) l + dg H m l) / H = k (tl H m 6) l := by
      rw [Int.add_comm, Int.add_mul_ediv_left _ _ (by omega), Int.ediv_eq_zero_of_lt (by omega) (by omega)]; omega
    have q2 : ((H : Int) * k (tl H m' 6) l + dg H m' l) / H = k (tl H m' 6) l := by
      rw [Int.add_comm, Int.add_mul_ediv_left _ _ (by omega), Int.ediv_eq_zero_of_lt (by omega) (by omega)]; omega
    rw [h, q2] at q1
    rw [← q1] at h
    exact ⟨by omega, q1.symm⟩
  have hi := tl_lt hH 6 m hm
  have hi' := tl_lt hH 6 m' hm'
  refine dg_inj 6 m m' (fun l hl => (both l hl).1) (hinj _ _ hi hi' fun j hj => ?_)
  have h1 := hk _ hi j hj
  have h2 := hk _ hi' j hj
  have h3 : vm 6 (k (tl H m 6)) B j = vm 6 (k (tl H m' 6)) B j := sm_cong fun i hi => by rw [(both i hi).2]
  omega

def aL : Nat := 6364136223846793005
def cL : Nat := 1442695040888963407
def ML : Nat := 144115188075855872
def TL : Nat := 51539607552
def SL : Nat := 8589934592
def nx (x : Nat) : Nat := (x * aL + cL) % ML
def it (x : Nat) : Nat → Nat
  | 0 => x
  | n + 1 => nx (it x n)
theorem it_add (x m n : Nat) : it x (m + n) = it (it x m) n := by
  induction n with
  | zero => rfl
  | succ n ih => show nx (it x (m + n)) = nx (it (it x m) n); rw [ih]
theorem it_lt {x : Nat} (h : x < ML) (n : Nat) : it x n < ML := by
  cases n with
  | zero => exact h
  | succ n => exact Nat.mod_lt _ (by decide)
/-- n steps as one affine map. -/
def aff : Nat → Nat × Nat
  | 0 => (1, 0)
  | n + 1 => ((aff n).1 * aL % ML, ((aff n).2 * aL + cL) % ML)
theorem it_aff {x : Nat} (h : x < ML) (n : Nat) : it x n = (x * (aff n).1 + (aff n).2) % ML := by
  induction n with
  | zero => simp only [it, aff]; rw [Nat.mul_one, Nat.add_zero, Nat.mod_eq_of_lt h]
  | succ n ih =>
    show (it x n * aL + cL) % ML = _
    rw [ih]
    simp only [aff]
    rw [Nat.add_mod _ cL, Nat.mul_mod, Nat.mod_mod, ← Nat.mul_mod, ← Nat.add_mod, Nat.add_mul, Nat.mul_assoc]
    rw [Nat.add_mod (x * ((aff n).1 * aL % ML)), Nat.mul_mod x ((aff n).1 * aL % ML), Nat.mod_mod, ← Nat.mul_mod, Nat.mod_mod, ← Nat.add_mod, Nat.add_assoc]

/-- 2^k steps as one affine map. -/
def dbl : Nat → Nat × Nat
  | 0 => (aL % ML, cL % ML)
  | k + 1 => ((dbl k).1 * (dbl k).1 % ML, ((dbl k).1 + 1) * (dbl k).2 % ML)
theorem it_dbl (k : Nat) : ∀ {x : Nat}, x < ML → it x (2 ^ k) = (x * (dbl k).1 + (dbl k).2) % ML := by
  induction k with
  | zero => intro x h; show (x * aL + cL) % ML = _; simp only [dbl]; rw [Nat.add_mod, Nat.mul_mod]; rw [Nat.add_mod (x * (aL % ML)), Nat.mul_mod x (aL % ML), Nat.mod_mod, Nat.mod_mod]
  | succ k ih =>
    intro x h
    rw [Nat.pow_succ, Nat.mul_two, it_add, ih (it_lt h _), ih h]
    simp only [dbl]
    generalize (dbl k).1 = A
    generalize (dbl k).2 = C
    rw [Nat.add_mod _ C, Nat.mul_mod, Nat.mod_mod, ← Nat.mul_mod, ← Nat.add_mod]
    rw [Nat.add_mod (x * (A * A % ML)), Nat.mul_mod x (A * A % ML), Nat.mod_mod, ← Nat.mul_mod, Nat.mod_mod, ← Nat.add_mod]
    rw [Nat.add_mul, Nat.add_mul, Nat.mul_assoc, Nat.one_mul, Nat.mul_comm C A, Nat.add_assoc]
def okDbl : Bool := (List.range 57).all fun k => (dbl k).1 % 2 ^ (k + 1) == 1 % 2 ^ (k + 1) && (dbl k).2 % 2 ^ (k + 1) == 2 ^ k && ML % 2 ^ (k + 1) == 0
theorem okDbl_true : okDbl = true := by decide +kernel
theorem dbl_ok {k : Nat} (hk : k < 57) : (dbl k).1 % 2 ^ (k + 1) = 1 % 2 ^ (k + 1) ∧ (dbl k).2 % 2 ^ (k + 1) = 2 ^ k ∧ 2 ^ (k + 1) ∣ ML := by
  have h := List.all_eq_true.mp okDbl_true k (List.mem_range.mpr hk)
  simp only [Bool.and_eq_true, beq_iff_eq] at h
  exact ⟨h.1.1, h.1.2, Nat.dvd_of_mod_eq_zero h.2⟩
theorem it_step {k : Nat} (hk : k < 57) {x : Nat} (hx : x < ML) : it x (2 ^ k) % 2 ^ (k + 1) = (x + 2 ^ k) % 2 ^ (k + 1) := by
  obtain ⟨h1, h2, h3⟩ := dbl_ok hk
  rw [it_dbl k hx, Nat.mod_mod_of_dvd _ h3, Nat.add_mod, Nat.mul_mod, h1, h2, ← Nat.mul_mod, Nat.mul_one]
  rw [Nat.add_mod x, Nat.mod_eq_of_lt (show 2 ^ k < 2 ^ (k + 1) from Nat.pow_lt_pow_right (by omega) (by omega))]
theorem it_many {k : Nat} (hk : k < 57) (m : Nat) : ∀ {x : Nat}, x < ML → it x (2 ^ k * m) % 2 ^ (k + 1) = (x + 2 ^ k * m) % 2 ^ (k + 1) := by
  induction m with
  | zero => intro x _; rfl
  | succ m ih =>
    intro x hx
    rw [Nat.mul_succ, it_add, it_step hk (it_lt hx _), Nat.add_mod, ih hx, Nat.mod_add_mod, ← Nat.add_assoc]
    rw [Nat.add_mod (x + 2 ^ k * m) (2 ^ k)]
    rw [Nat.mod_add_mod, Nat.add_mod_mod]
theorem two_odd (d : Nat) : 0 < d → ∃ k m, d = 2 ^ k * (2 * m + 1) := by
  induction d using Nat.strongRecOn with
  | _ d ih =>
    intro h
    by_cases e : d % 2 = 0
    · obtain ⟨k, m, hk⟩ := ih (d / 2) (by omega) (by omega)
      exact ⟨k + 1, m, by rw [Nat.pow_succ, Nat.mul_comm (2 ^ k) 2, Nat.mul_assoc, ← hk]; omega⟩
    · exact ⟨0, d / 2, by omega⟩
theorem it_ne {x d : Nat} (hx : x < ML) (h0 : 0 < d) (h1 : d < ML) : it x d ≠ x := by
  intro he
  obtain ⟨k, m, hd⟩ := two_odd d h0
  have hk : k < 57 := by
    refine Decidable.byContradiction fun h => ?_
    have a : 2 ^ 57 ≤ 2 ^ k := Nat.pow_le_pow_right (by omega) (by omega)
    have b : 2 ^ k * 1 ≤ 2 ^ k * (2 * m + 1) := Nat.mul_le_mul_left _ (by omega)
    have c : ML = 2 ^ 57 := by decide
    omega
  have h := it_many hk (2 * m + 1) hx
  rw [← hd, he, hd] at h
  have e1 : x + 2 ^ k * (2 * m + 1) = x + 2 ^ k + 2 ^ (k + 1) * m := by
    rw [Nat.mul_add, Nat.mul_one, Nat.pow_succ, Nat.mul_assoc]; omega
  rw [e1, Nat.add_mul_mod_self_left] at h
  have hp : 2 ^ (k + 1) = 2 ^ k + 2 ^ k := by rw [Nat.pow_succ]; omega
  have hp1 : 0 < 2 ^ k := Nat.pow_pos (by omega)
  have a := Nat.div_add_mod x (2 ^ (k + 1))
  have b := Nat.mod_lt x (show 0 < 2 ^ (k + 1) by omega)
  rw [show x + 2 ^ k = (x % 2 ^ (k + 1) + 2 ^ k) + 2 ^ (k + 1) * (x / 2 ^ (k + 1)) by omega, Nat.add_mul_mod_self_left] at h
  generalize x % 2 ^ (k + 1) = u at *
  by_cases c : u + 2 ^ k < 2 ^ (k + 1)
  · rw [Nat.mod_eq_of_lt c] at h; omega
  · rw [Nat.mod_eq_sub_mod (by omega), Nat.mod_eq_of_lt (by omega)] at h; omega
theorem it_inj {x n m : Nat} (hx : x < ML) (hn : n < ML) (hm : m < ML) (h : it x n = it x m) : n = m := by
  rcases Nat.lt_trichotomy n m with l | l | l
  · exact absurd (show it (it x n) (m - n) = it x n by rw [← it_add, show n + (m - n) = m by omega]; exact h.symm) (it_ne (it_lt hx n) (by omega) (by omega))
  · exact l
  · exact absurd (show it (it x m) (n - m) = it x m by rw [← it_add, show m + (n - m) = n by omega]; exact h) (it_ne (it_lt hx m) (by omega) (by omega))

/-- The draw modulo 6. -/
def dr (x : Nat) : Nat := x / SL % 6
theorem dr_box {x r : Nat} (h : dr x = r) : r * SL ≤ x % TL ∧ x % TL < r * SL + SL := by
  unfold dr SL at h
  unfold TL SL
  omega

/-- A short basis for two lags, with its witnesses. -/
structure Dat where
  i : Nat
  j : Nat
  B : List (List Int)
  U : List (List Int)
  C : List (List Int)
  d : Int
  K : List Nat
  bound : Nat
def mat (l : List (List Int)) (i j : Nat) : Int := (l.getD i []).getD j 0
def HL : Nat := 1048576
def base (a1 a2 : Int) : List (List Int) := [[1, a1, a2, 1, a1, a2], [0, ML, 0, 0, ML, 0], [0, 0, ML, 0, 0, ML], [0, 0, 0, TL, 0, 0], [0, 0, 0, 0, TL, 0], [0, 0, 0, 0, 0, TL]]
def okDat (D : Dat) : Bool :=
  let a1 : Int := (aff D.i).1
  let a2 : Int := (aff D.j).1
  let six := List.range 6
  D.d != 0
  && (six.all fun i => six.all fun j => vm 6 (mat D.U i) (mat D.B) j == mat (base a1 a2) i j)
  && (six.all fun i => six.all fun j => vm 6 (mat D.B i) (mat D.C) j == if i = j then D.d else 0)
  && (six.all fun i => (mat D.B i 1 - a1 * mat D.B i 0) % ML == 0 && (mat D.B i 2 - a2 * mat D.B i 0) % ML == 0
      && (mat D.B i 3 - mat D.B i 0) % TL == 0 && (mat D.B i 4 - mat D.B i 1) % TL == 0 && (mat D.B i 5 - mat D.B i 2) % TL == 0)
  && decide ((HL : Int) * ML + HL * (pos (mat D.B) 6 0 + neg (mat D.B) 6 0) ≤ D.K.getD 0 0)
  && decide ((HL : Int) * ML + HL * (pos (mat D.B) 6 1 + neg (mat D.B) 6 1) ≤ ML * ((D.K.getD 1 0 : Nat) - 1))
  && decide ((HL : Int) * ML + HL * (pos (mat D.B) 6 2 + neg (mat D.B) 6 2) ≤ ML * ((D.K.getD 2 0 : Nat) - 1))
  && decide ((HL : Int) * SL + HL * (pos (mat D.B) 6 3 + neg (mat D.B) 6 3) ≤ TL * ((D.K.getD 3 0 : Nat) - 1))
  && decide ((HL : Int) * SL + HL * (pos (mat D.B) 6 4 + neg (mat D.B) 6 4) ≤ TL * ((D.K.getD 4 0 : Nat) - 1))
  && decide ((HL : Int) * SL + HL * (pos (mat D.B) 6 5 + neg (mat D.B) 6 5) ≤ TL * ((D.K.getD 5 0 : Nat) - 1))
  && decide (D.K.getD 0 0 * D.K.getD 1 0 * D.K.getD 2 0 * D.K.getD 3 0 * D.K.getD 4 0 * D.K.getD 5 0 < (D.bound + 1) * HL ^ 6)

theorem all6 {f : Nat → Bool} (h : (List.range 6).all f = true) {i : Nat} (hi : i < 6) : f i = true := List.all_eq_true.mp h i (List.mem_range.mpr hi)

theorem pat_le (D : Dat) (hD : okDat D = true) (x : Nat) (hx : x < ML) (r0 r1 r2 : Nat) :
    cnt (fun n => decide (dr (it x n) = r0 ∧ dr (it x (n + D.i)) = r1 ∧ dr (it x (n + D.j)) = r2)) ML ≤ D.bound := by
  unfold okDat at hD
  simp only [Bool.and_eq_true, decide_eq_true_eq, bne_iff_ne, ne_eq] at hD
  obtain ⟨⟨⟨⟨⟨⟨⟨⟨⟨⟨hd, hU⟩, hC⟩, hE⟩, k0⟩, k1⟩, k2⟩, k3⟩, k4⟩, k5⟩, hb⟩ := hD
  have hE' := fun {i : Nat} (hi : i < 6) => by
    have := all6 hE hi
    simp only [Bool.and_eq_true, beq_iff_eq] at this
    exact this
  have hg : Good ML TL (aff D.i).1 (aff D.j).1 (mat D.B) (mat D.U) (mat D.C) (mat (base (aff D.i).1 (aff D.j).1)) D.d := by
    refine ⟨hd, by decide, by decide, ?_, ?_, ?_, ?_, ?_, ?_, ?_⟩
    · intro i hi j hj
      exact beq_iff_eq.mp (all6 (all6 hU hi) hj)
    · intro i hi j hj
      exact beq_iff_eq.mp (all6 (all6 hC hi) hj)
    · intro i hi; exact Int.dvd_of_emod_eq_zero (hE' hi).1.1.1.1
    · intro i hi; exact Int.dvd_of_emod_eq_zero (hE' hi).1.1.1.2
    · intro i hi; exact Int.dvd_of_emod_eq_zero (hE' hi).1.1.2
    · intro i hi; exact Int.dvd_of_emod_eq_zero (hE' hi).1.2
    · intro i hi; exact Int.dvd_of_emod_eq_zero (hE' hi).2
  obtain ⟨e, he1, he2⟩ := cnt_enum (fun n => decide (dr (it x n) = r0 ∧ dr (it x (n + D.i)) = r1 ∧ dr (it x (n + D.j)) = r2)) ML
  generalize cnt (fun n => decide (dr (it x n) = r0 ∧ dr (it x (n + D.i)) = r1 ∧ dr (it x (n + D.j)) = r2)) ML = N at he1 he2 ⊢
  have hp := pack hg N HL (by decide)
    (fun i j => match j with | 0 => (it x (e i) : Int) | 1 => (it x (e i + D.i) : Int) | 2 => (it x (e i + D.j) : Int) | 3 => ((it x (e i) % TL : Nat) : Int) | 4 => ((it x (e i + D.i) % TL : Nat) : Int) | _ => ((it x (e i + D.j) % TL : Nat) : Int))
    (fun i l => match l with | 0 => (it x (e i) : Int) | 1 => - (((it x (e i) * (aff D.i).1 + (aff D.i).2) / ML : Nat) : Int) | 2 => - (((it x (e i) * (aff D.j).1 + (aff D.j).2) / ML : Nat) : Int) | 3 => - ((it x (e i) / TL : Nat) : Int) | 4 => - ((it x (e i + D.i) / TL : Nat) : Int) | _ => - ((it x (e i + D.j) / TL : Nat) : Int))
    (fun j => match j with | 0 => 0 | 1 => ((aff D.i).2 : Int) | 2 => ((aff D.j).2 : Int) | 3 => 0 | 4 => ((aff D.i).2 : Int) | _ => ((aff D.j).2 : Int))
    (fun j => match j with | 0 => 0 | 1 => 0 | 2 => 0 | 3 => ((r0 * SL : Nat) : Int) | 4 => ((r1 * SL : Nat) : Int) | _ => ((r2 * SL : Nat) : Int))
    (fun j => if j < 3 then (ML : Int) else (SL : Int))
    ?_ ?_ ?_ (fun j => D.K.getD j 0) ?_ ?_
  · have h := Nat.lt_of_le_of_lt hp hb
    have := Nat.lt_of_mul_lt_mul_right h
    omega
  · intro i hi j hj
    have hX := it_lt hx (e i)
    have e1 : it x (e i + D.i) = _ := (it_add x (e i) D.i).trans (it_aff hX D.i)
    have e2 : it x (e i + D.j) = _ := (it_add x (e i) D.j).trans (it_aff hX D.j)
    have t0 := Nat.div_add_mod (it x (e i)) TL
    have t1 := Nat.div_add_mod (it x (e i + D.i)) TL
    have t2 := Nat.div_add_mod (it x (e i + D.j)) TL
    have q1 := Nat.div_add_mod (it x (e i) * (aff D.i).1 + (aff D.i).2) ML
    have q2 := Nat.div_add_mod (it x (e i) * (aff D.j).1 + (aff D.j).2) ML
    rw [← e1] at q1
    rw [← e2] at q2
    generalize it x (e i + D.i) = X1 at *
    generalize it x (e i + D.j) = X2 at *
    generalize it x (e i) = X0 at *
    generalize (aff D.i).1 = A1 at *
    generalize (aff D.j).1 = A2 at *
    generalize (aff D.i).2 = C1 at *
    generalize (aff D.j).2 = C2 at *
    generalize (X0 * A1 + C1) / ML = Q1 at *
    generalize (X0 * A2 + C2) / ML = Q2 at *
    generalize X0 / TL = S0 at *
    generalize X1 / TL = S1 at *
    generalize X2 / TL = S2 at *
    generalize X0 % TL = R0 at *
    generalize X1 % TL = R1 at *
    generalize X2 % TL = R2 at *
    have q1' : (ML : Int) * Q1 + X1 = X0 * A1 + C1 := by exact_mod_cast q1
    have q2' : (ML : Int) * Q2 + X2 = X0 * A2 + C2 := by exact_mod_cast q2
    have t0' : (TL : Int) * S0 + R0 = X0 := by exact_mod_cast t0
    have t1' : (TL : Int) * S1 + R1 = X1 := by exact_mod_cast t1
    have t2' : (TL : Int) * S2 + R2 = X2 := by exact_mod_cast t2
    have c1 := Int.mul_comm (Q1 : Int) ML
    have c2 := Int.mul_comm (Q2 : Int) ML
    have d0 := Int.mul_comm (S0 : Int) TL
    have d1 := Int.mul_comm (S1 : Int) TL
    have d2 := Int.mul_comm (S2 : Int) TL
    match j, hj with
    | 0, _ => simp [vm, sm, mat, base]
    | 1, _ => simp [vm, sm, mat, base, Int.neg_mul]; omega
    | 2, _ => simp [vm, sm, mat, base, Int.neg_mul]; omega
    | 3, _ => simp [vm, sm, mat, base, Int.neg_mul]; omega
    | 4, _ => simp [vm, sm, mat, base, Int.neg_mul]; omega
    | 5, _ => simp [vm, sm, mat, base, Int.neg_mul]; omega
    | j + 6, h => omega
  · intro i hi j hj
    have h := (he1 i hi).2
    simp only [decide_eq_true_eq] at h
    obtain ⟨h0, h1, h2⟩ := h
    have b0 := dr_box h0
    have b1 := dr_box h1
    have b2 := dr_box h2
    have l0 := it_lt hx (e i)
    have l1 := it_lt hx (e i + D.i)
    have l2 := it_lt hx (e i + D.j)
    match j, hj with
    | 0, _ => simp; omega
    | 1, _ => simp; omega
    | 2, _ => simp; omega
    | 3, _ => simp only [show ¬ (3 < 3) by omega, if_false]; omega
    | 4, _ => simp only [show ¬ (4 < 3) by omega, if_false]; omega
    | 5, _ => simp only [show ¬ (5 < 3) by omega, if_false]; omega
    | j + 6, h => omega
  · intro i i' hi hi' h
    have h0 := h 0 (by omega)
    simp only at h0
    exact he2 i i' hi hi' (it_inj hx (he1 i hi).1 (he1 i' hi').1 (by omega))
  · simpa using k0
  · intro j h1 hj
    match j, hj with
    | 0, _ => omega
    | 1, _ => simpa using k1
    | 2, _ => simpa using k2
    | 3, _ => simpa using k3
    | 4, _ => simpa using k4
    | 5, _ => simpa using k5
    | j + 6, h => omega
end Go.Proofs.YtonehmjoolflfaaGreatDoor.Zl
