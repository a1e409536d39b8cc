
/- Multiples of an element, told by numbers; no program in sight. -/
import Derived.Test.YtnoemhmmaicakaaGrp
namespace Go.Proofs.Ytnoemhmmaicakaa
namespace Grp
/-- k times an element. -/
def mulR : List Int → Int → Int → Int
  | [], _, _ => 0
  | m :: r, k, x => (k * (x % m)) % m + m * mulR r k (x / m)
theorem mulR_dm {m : Int} {r : List Int} (h : Pos (m :: r)) (k x : Int) : mulR (m :: r) k x % m = (k * (x % m)) % m ∧ mulR (m :: r) k x / m = mulR r k (x / m) := by
  obtain ⟨d1, d2⟩ := em (x := k * (x % m)) h.head
  exact dm _ d1 d2
theorem mulR_succ {r : List Int} (h : Pos r) : ∀ k x, addR r (mulR r k x) x = mulR r (k + 1) x := by
  induction r with
  | nil => intro k x; rfl
  | cons m r ih =>
    intro k x
    obtain ⟨e1, e2⟩ := mulR_dm h k x
    show (mulR (m :: r) k x % m + x % m) % m + m * addR r (mulR (m :: r) k x / m) (x / m) = ((k + 1) * (x % m)) % m + m * mulR r (k + 1) (x / m)
    rw [e1, e2, ih h.tail, Int.add_mul, Int.one_mul, Int.emod_add_emod]
theorem mulR_one {r : List Int} (h : Pos r) : ∀ x, 0 ≤ x → x < prodL r → mulR r 1 x = x := by
  induction r with
  | nil => intro x h0 h1; simp [prodL] at h1; simp [mulR]; omega
  | cons m r ih =>
    intro x h0 h1
    have hm := h.head
    have q0 : 0 ≤ x / m := Int.ediv_nonneg h0 (by omega)
    have q1 : x / m < prodL r := Int.ediv_lt_of_lt_mul (by omega) (by rw [Int.mul_comm]; exact h1)
    simp only [mulR]
    rw [ih h.tail _ q0 q1, Int.one_mul, Int.emod_emod_of_dvd _ (Int.dvd_refl m)]
    exact Int.emod_add_mul_ediv x m
theorem mulR_dvd {r : List Int} {k : Int} : (∀ m ∈ r, m ∣ k) → ∀ x, mulR r k x = 0 := by
  induction r with
  | nil => intro _ x; rfl
  | cons m r ih =>
    intro hk x
    simp only [mulR]
    rw [ih (fun m' hm => hk m' (by simp [hm])), Int.emod_eq_zero_of_dvd (Int.dvd_trans (hk m (by simp)) (Int.dvd_mul_right k _))]
    simp
theorem dvd_prodL {r : List Int} : ∀ m ∈ r, m ∣ prodL r := by
  induction r with
  | nil => intro m hm; cases hm
  | cons a r ih =>
    intro m hm
    rcases List.mem_cons.1 hm with rfl | hm
    · exact Int.dvd_mul_right _ _
    · exact Int.dvd_trans (ih m hm) (Int.dvd_mul_left _ _)
theorem mulR_prod (r : List Int) (x : Int) : mulR r (prodL r) x = 0 := mulR_dvd dvd_prodL x
end Grp
end Go.Proofs.Ytnoemhmmaicakaa
