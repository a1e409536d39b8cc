
/- Groups of orders, told by numbers: mixed radix, the least weight last; no program in sight. -/
namespace Go.Proofs.YtonehmjoolflfaaGreatDoor
namespace Grp

/-- The sum of two elements; the orders are reversed (the last first). -/
def addR : List Int → Int → Int → Int
  | [], _, _ => 0
  | m :: r, x, y => (x % m + y % m) % m + m * addR r (x / m) (y / m)
def negR : List Int → Int → Int
  | [], _ => 0
  | m :: r, x => (m - x % m) % m + m * negR r (x / m)
def prodL : List Int → Int
  | [] => 1
  | m :: r => m * prodL r
def Pos (r : List Int) : Prop := ∀ m ∈ r, 1 ≤ m

theorem dm {d m : Int} (q : Int) (h0 : 0 ≤ d) (h1 : d < m) : (d + m * q) % m = d ∧ (d + m * q) / m = q := by
  have hm : m ≠ 0 := by omega
  refine ⟨?_, ?_⟩
  · rw [Int.add_mul_emod_self_left, Int.emod_eq_of_lt h0 h1]
  · rw [Int.add_mul_ediv_left _ _ hm, Int.ediv_eq_zero_of_lt h0 h1]; omega
theorem em {x m : Int} (hm : 1 ≤ m) : 0 ≤ x % m ∧ x % m < m := ⟨Int.emod_nonneg _ (by omega), Int.emod_lt_of_pos _ (by omega)⟩

theorem prodL_pos {r : List Int} (h : Pos r) : 1 ≤ prodL r := by
  induction r with
  | nil => simp [prodL]
  | cons m r ih =>
    have h1 := h m (by simp)
    have h2 := ih (fun k hk => h k (by simp [hk]))
    have : 1 * 1 ≤ m * prodL r := Int.mul_le_mul h1 h2 (by omega) (by omega)
    simp only [prodL]; omega
theorem Pos.tail {m : Int} {r : List Int} (h : Pos (m :: r)) : Pos r := fun k hk => h k (by simp [hk])
theorem Pos.head {m : Int} {r : List Int} (h : Pos (m :: r)) : 1 ≤ m := h m (by simp)

theorem lt_of_digit {d m q N : Int} (hd : d < m) (hq : q < N) (hm : 1 ≤ m) : d + m * q < m * N := by
  have : m * (q + 1) ≤ m * N := Int.mul_le_mul_of_nonneg_left (by omega) (by omega)
  rw [Int.mul_add] at this; omega
theorem addR_rng {r : List Int} (h : Pos r) : ∀ x y, 0 ≤ addR r x y ∧ addR r x y < prodL r := by
  induction r with
  | nil => intro x y; simp [addR, prodL]
  | cons m r ih =>
    intro x y
    have hm := h.head
    obtain ⟨i1, i2⟩ := ih h.tail (x / m) (y / m)
    obtain ⟨d1, d2⟩ := em (x := x % m + y % m) hm
    have := Int.mul_nonneg (show 0 ≤ m by omega) i1
    exact ⟨by simp only [addR]; omega, by simp only [addR, prodL]; exact lt_of_digit d2 i2 hm⟩
theorem addR_comm {r : List Int} : ∀ x y, addR r x y = addR r y x := by
  induction r with
  | nil => intro x y; rfl
  | cons m r ih => intro x y; simp only [addR]; rw [ih, Int.add_comm (x % m)]
theorem addR_mod {m : Int} {r : List Int} (h : Pos (m :: r)) (x y : Int) : addR (m :: r) x y % m = (x % m + y % m) % m ∧ addR (m :: r) x y / m = addR r (x / m) (y / m) := by
  obtain ⟨d1, d2⟩ := em (x := x % m + y % m) h.head
  exact dm _ d1 d2
theorem mod3 (a b c m : Int) : ((a + b) % m + c) % m = (a + (b + c) % m) % m := by
  rw [Int.emod_add_emod, Int.add_emod_emod, Int.add_assoc]
theorem addR_assoc {r : List Int} (h : Pos r) : ∀ x y z, addR r (addR r x y) z = addR r x (addR r y z) := by
  induction r with
  | nil => intro x y z; rfl
  | cons m r ih =>
    intro x y z
    obtain ⟨a1, a2⟩ := addR_mod h x y
    obtain ⟨b1, b2⟩ := addR_mod h y z
    show (addR (m :: r) x y % m + z % m) % m + m * addR r (addR (m :: r) x y / m) (z / m) = (x % m + addR (m :: r) y z % m) % m + m * addR r (x / m) (addR (m :: r) y z / m)
    rw [a1, a2, b1, b2, ih h.tail]
    rw [mod3]
theorem addR_zero {r : List Int} (h : Pos r) : ∀ x, 0 ≤ x → x < prodL r → addR r x 0 = x := by
  induction r with
  | nil => intro x h0 h1; simp [prodL] at h1; simp [addR]; omega
  | cons m r ih =>
    intro x h0 h1
    have hm := h.head
    have q0 : 0 ≤ x / m := Int.ediv_nonneg h0 (by omega)
    have q1 : x / m < prodL r := Int.ediv_lt_of_lt_mul (by omega) (by rw [Int.mul_comm]; exact h1)
    simp only [addR]
    rw [Int.zero_ediv, ih h.tail _ q0 q1]
    have := Int.emod_add_mul_ediv x m
    simp; omega
theorem negR_rng {r : List Int} (h : Pos r) : ∀ x, 0 ≤ negR r x ∧ negR r x < prodL r := by
  induction r with
  | nil => intro x; simp [negR, prodL]
  | cons m r ih =>
    intro x
    have hm := h.head
    obtain ⟨i1, i2⟩ := ih h.tail (x / m)
    obtain ⟨d1, d2⟩ := em (x := m - x % m) hm
    have := Int.mul_nonneg (show 0 ≤ m by omega) i1
    exact ⟨by simp only [negR]; omega, by simp only [negR, prodL]; exact lt_of_digit d2 i2 hm⟩
theorem addR_neg {r : List Int} (h : Pos r) : ∀ x, addR r x (negR r x) = 0 := by
  induction r with
  | nil => intro x; rfl
  | cons m r ih =>
    intro x
    have hm := h.head
    obtain ⟨d1, d2⟩ := em (x := m - x % m) hm
    obtain ⟨e1, e2⟩ := dm (negR r (x / m)) d1 d2
    have e1' : negR (m :: r) x % m = (m - x % m) % m := e1
    have e2' : negR (m :: r) x / m = negR r (x / m) := e2
    show (x % m + negR (m :: r) x % m) % m + m * addR r (x / m) (negR (m :: r) x / m) = 0
    rw [e1', e2', ih h.tail, Int.add_emod_emod, show x % m + (m - x % m) = m by omega, Int.emod_self]
    simp
/-- Cancellation: what added to x makes 0 is the negative. -/
theorem neg_unique {r : List Int} (h : Pos r) {x y : Int} (h0 : 0 ≤ y) (h1 : y < prodL r) (he : addR r x y = 0) : y = negR r x := by
  have e1 : addR r (negR r x) (addR r x y) = addR r (negR r x) 0 := by rw [he]
  rw [← addR_assoc h, addR_comm (negR r x) x, addR_neg h, addR_comm 0 y, addR_zero h y h0 h1, addR_zero h _ (negR_rng h x).1 (negR_rng h x).2] at e1
  exact e1
end Grp
end Go.Proofs.YtonehmjoolflfaaGreatDoor
