
/- Valid orders of a group, told plainly, and that the fold of addElements is the sum of elements; no program is walked here. -/
import Derived.Test.YtneflhachjlmkaaA2
import Derived.Test.YtneflhachjlmkaaA4
import Derived.Test.YtneflhachjlmkaaGrp
namespace Go.Proofs.Ytneflhachjlmkaa
open Go Go.RowKit Grp

/-- Orders of a group: 1 to 4 of them, each from 2 to 16, at most 16 elements. -/
def okG (os : List Int) : Bool := decide (1 ≤ os.length ∧ os.length ≤ 4 ∧ (∀ m ∈ os, 2 ≤ m ∧ m ≤ 16) ∧ prodL os ≤ 16)
structure OkG (os : List Int) : Prop where
  l1 : 1 ≤ os.length
  l4 : os.length ≤ 4
  m2 : ∀ m ∈ os, 2 ≤ m
  m16 : ∀ m ∈ os, m ≤ 16
  p16 : prodL os ≤ 16
theorem okG_iff {os : List Int} : okG os = true ↔ OkG os := by
  simp only [okG, decide_eq_true_eq]
  exact ⟨fun ⟨a, b, c, d⟩ => ⟨a, b, fun m h => (c m h).1, fun m h => (c m h).2, d⟩, fun h => ⟨h.l1, h.l4, fun m k => ⟨h.m2 m k, h.m16 m k⟩, h.p16⟩⟩

theorem prodL_append (a b : List Int) : prodL (a ++ b) = prodL a * prodL b := by
  induction a with
  | nil => simp [prodL]
  | cons m a ih => simp only [List.cons_append, prodL, ih, Int.mul_assoc]
theorem prodL_reverse (a : List Int) : prodL a.reverse = prodL a := by
  induction a with
  | nil => rfl
  | cons m a ih => rw [List.reverse_cons, prodL_append, ih]; simp [prodL, Int.mul_comm]
theorem OkG.pos {os : List Int} (h : OkG os) : Pos os := fun m hm => by have := h.m2 m hm; omega
theorem OkG.posR {os : List Int} (h : OkG os) : Pos os.reverse := fun m hm => h.pos m (by simpa using hm)
theorem OkG.ge {os : List Int} (h : OkG os) : 2 ≤ prodL os := by
  obtain ⟨l1, _, m2, _, _⟩ := h
  cases os with
  | nil => simp at l1
  | cons m r =>
    have h1 := m2 m (by simp)
    have h2 : 1 ≤ prodL r := prodL_pos (fun k hk => by have := m2 k (by simp [hk]); omega)
    have : 2 * 1 ≤ m * prodL r := Int.mul_le_mul h1 h2 (by omega) (by omega)
    simp only [prodL]; omega
theorem take_rev {zs : List Int} {k : Nat} (h : k < zs.length) : (zs.take (k + 1)).reverse = gi zs k :: (zs.take k).reverse := by rw [take_gi h]; simp

/-- The sum and the negative of elements. -/
def Ar (os : List Int) (x y : Int) : Int := addR os.reverse x y
def Ng (os : List Int) (x : Int) : Int := negR os.reverse x
section
variable {os : List Int} (h : OkG os)
include h
theorem Ar_rng (x y : Int) : 0 ≤ Ar os x y ∧ Ar os x y < prodL os := by have := addR_rng h.posR x y; rwa [prodL_reverse] at this
theorem Ar_assoc (x y z : Int) : Ar os (Ar os x y) z = Ar os x (Ar os y z) := addR_assoc h.posR x y z
theorem Ar_zero {x : Int} (h0 : 0 ≤ x) (h1 : x < prodL os) : Ar os x 0 = x := addR_zero h.posR x h0 (by rwa [prodL_reverse])
theorem Ng_rng (x : Int) : 0 ≤ Ng os x ∧ Ng os x < prodL os := by have := negR_rng h.posR x; rwa [prodL_reverse] at this
theorem Ar_neg (x : Int) : Ar os x (Ng os x) = 0 := addR_neg h.posR x
theorem Ng_unique {x y : Int} (h0 : 0 ≤ y) (h1 : y < prodL os) (he : Ar os x y = 0) : y = Ng os x := neg_unique h.posR h0 (by rwa [prodL_reverse]) he
end
theorem Ar_comm (os : List Int) (x y : Int) : Ar os x y = Ar os y x := addR_comm x y

/-- One digit of a sum. -/
theorem digit_rng {x y m : Int} (hm : 1 ≤ m) : 0 ≤ (x % m + y % m) % m ∧ (x % m + y % m) % m < m := em hm
theorem foldA_sum : ∀ (L : List IxOrd) (x y s p : Int), 0 ≤ s → s < p → p * prodL (L.map (·.1.2)) ≤ 1000000 →
    (L.foldl stepA (x, y, s, p)).2.2.1 = s + p * addR (L.map (·.1.2)) x y := by
  intro L
  induction L with
  | nil => intro x y s p _ _ _; simp [addR]
  | cons e L ih =>
    intro x y s p h0 h1 h2
    obtain ⟨⟨ix, m⟩, hm1, hm2⟩ := e
    simp only at hm1 hm2
    simp only [List.map_cons, prodL] at h2
    have hP : Pos (L.map (·.1.2)) := fun k hk => by
      obtain ⟨e, _, rfl⟩ := List.mem_map.1 hk
      exact e.2.1
    have hN := prodL_pos hP
    have hpm : p * m * 1 ≤ p * m * prodL (L.map (·.1.2)) := Int.mul_le_mul_of_nonneg_left hN (Int.mul_nonneg (by omega) (by omega))
    have hpm' : p * m * prodL (L.map (·.1.2)) ≤ 1000000 := by rw [Int.mul_assoc]; exact h2
    obtain ⟨d0, d1⟩ := em (x := x + y) hm1
    have e1 : 0 ≤ (x + y) % m * p := Int.mul_nonneg d0 (by omega)
    have e2 : ((x + y) % m + 1) * p ≤ m * p := Int.mul_le_mul_of_nonneg_right (by omega) (by omega)
    have e3 : m * p = p * m := Int.mul_comm _ _
    rw [Int.add_mul] at e2
    have hw1 : wrap64 ((x + y) % m * p) = (x + y) % m * p := wrap64_ok _ ⟨by omega, by omega⟩
    have hw2 : wrap64 (s + (x + y) % m * p) = s + (x + y) % m * p := wrap64_ok _ ⟨by omega, by omega⟩
    have hw3 : wrap64 (p * m) = p * m := wrap64_ok _ ⟨by omega, by omega⟩
    have hst : stepA (x, y, s, p) ⟨(ix, m), ⟨hm1, hm2⟩⟩ = (x / m, y / m, s + (x + y) % m * p, p * m) := by
      simp only [stepA]; rw [hw1, hw2, hw3]
    rw [List.foldl_cons, hst, ih _ _ _ _ (by omega) (by omega) hpm']
    simp only [List.map_cons, addR]
    rw [← Int.add_emod, Int.mul_add, Int.mul_assoc p m, Int.mul_comm ((x + y) % m) p]; omega

/-- The k-th round's index and order. -/
def ixo (zs : List Int) (h : ∀ m ∈ zs, 1 ≤ m ∧ m ≤ 1000000) (k : Nat) : IxOrd :=
  if hk : k < zs.length then ⟨((zs.length : Int) - 1 - k, gi zs (zs.length - 1 - k)), h _ (gi_mem (by omega))⟩ else ⟨(0, 1), by decide⟩
theorem ixo_at {zs : List Int} (h : ∀ m ∈ zs, 1 ≤ m ∧ m ≤ 1000000) {k : Nat} (hk : k < zs.length) : (ixo zs h k).1 = ((zs.length : Int) - 1 - k, gi zs (zs.length - 1 - k)) := by
  unfold ixo; rw [dif_pos hk]
theorem upTo_ixo (zs : List Int) (h : ∀ m ∈ zs, 1 ≤ m ∧ m ≤ 1000000) : (upTo (ixo zs h) zs.length).map (·.1.2) = zs.reverse := by
  refine List.ext_getElem (by simp [upTo]) fun i h1 h2 => ?_
  have hi : i < zs.length := by simpa using h2
  simp only [upTo, List.map_map, List.getElem_map, List.getElem_range, Function.comp_apply, ixo_at h hi, List.getElem_reverse]
  unfold gi
  rw [List.getD_eq_getElem?_getD, List.getElem?_eq_getElem (by omega)]; rfl
theorem foldA_Ar {os : List Int} (hG : OkG os) (h : ∀ m ∈ os, 1 ≤ m ∧ m ≤ 1000000) (x y : Int) : (foldA x y (upTo (ixo os h) os.length)).2.2.1 = Ar os x y := by
  unfold foldA
  have hp := hG.p16
  rw [foldA_sum _ _ _ _ _ (by omega) (by omega) (by rw [upTo_ixo, prodL_reverse]; omega), upTo_ixo]
  unfold Ar; omega
theorem addElements_any (w : World) (A : Option Addr) (n c : Nat) (zs : List Int) (a b : Int) (hG : OkG zs) (a0 : 0 ≤ a) (a1 : a ≤ 1000000) (b0 : 0 ≤ b) (b1 : b ≤ 1000000) (h : Sl w w.heap.size A n c zs) :
    Calls Try.prog 177 #[.slice A n c, .int .i64 a, .int .i64 b] w (Re w (.int .i64 (Ar zs a b))) := by
  obtain rfl := h.len
  have hz : ∀ m ∈ zs, 1 ≤ m ∧ m ≤ 1000000 := fun m hm => by have := hG.m2 m hm; have := hG.m16 m hm; omega
  have h4 := hG.l4
  have := callsIn_wide.1 (addElements_in Fence.wide 3 trivial trivial trivial rfl (Nat.le_refl _) A zs.length c zs a b (by omega) (ixo zs hz) (fun k hk => ixo_at hz hk) a0 a1 b0 b1 w h)
  refine this.mono fun e w' he => ?_
  rw [foldA_Ar hG] at he
  exact he
end Go.Proofs.Ytneflhachjlmkaa
