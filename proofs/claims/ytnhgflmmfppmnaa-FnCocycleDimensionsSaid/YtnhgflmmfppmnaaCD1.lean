
/- Ranks modulo a small prime: plain facts, and the walk of l17Less of the reference. -/
import Derived.Test.YtnhgflmmfppmnaaCC
import Derived.Test.YtnhgflmmfppmnaaRK2
import Derived.Test.YtnhgflmmfppmnaaC2
namespace Go.Proofs.Ytnhgflmmfppmnaa
open Go Go.RowKit Grp Rk
set_option linter.unusedSimpArgs false
set_option linter.unusedVariables false
set_option maxRecDepth 100000
/-- The small primes. -/
def Pr4 (p : Int) : Prop := p = 2 ∨ p = 3 ∨ p = 5 ∨ p = 7
theorem Pr4.rng {p : Int} (h : Pr4 p) : 2 ≤ p ∧ p ≤ 7 := by rcases h with rfl | rfl | rfl | rfl <;> decide
theorem Pr4.isP {p : Int} (h : Pr4 p) : IsP p := by
  refine ⟨h.rng.1, fun a b hd => ?_⟩
  have h1 : a * b % p = 0 := Int.emod_eq_zero_of_dvd hd
  rw [Int.mul_emod] at h1
  have ha0 := Int.emod_nonneg a (show p ≠ 0 by have := h.rng; omega)
  have ha1 := Int.emod_lt_of_pos a (show 0 < p by have := h.rng; omega)
  have hb0 := Int.emod_nonneg b (show p ≠ 0 by have := h.rng; omega)
  have hb1 := Int.emod_lt_of_pos b (show 0 < p by have := h.rng; omega)
  have key : a % p = 0 ∨ b % p = 0 := by
    obtain ⟨x, hx⟩ : ∃ x, a % p = x := ⟨_, rfl⟩
    obtain ⟨y, hy⟩ : ∃ y, b % p = y := ⟨_, rfl⟩
    rw [hx, hy] at h1
    rw [hx] at ha0 ha1 ⊢
    rw [hy] at hb0 hb1 ⊢
    obtain ⟨x, rfl⟩ := Int.eq_ofNat_of_zero_le ha0
    obtain ⟨y, rfl⟩ := Int.eq_ofNat_of_zero_le hb0
    clear hx hy hd
    rcases h with rfl | rfl | rfl | rfl
    · have hx : x < 2 := by omega
      have hy : y < 2 := by omega
      have : ∀ x : Fin 2, ∀ y : Fin 2, ((x.1 : Int) * (y.1 : Int)) % 2 = 0 → (x.1 : Int) = 0 ∨ (y.1 : Int) = 0 := by decide
      exact this ⟨x, hx⟩ ⟨y, hy⟩ h1
    · have hx : x < 3 := by omega
      have hy : y < 3 := by omega
      have : ∀ x : Fin 3, ∀ y : Fin 3, ((x.1 : Int) * (y.1 : Int)) % 3 = 0 → (x.1 : Int) = 0 ∨ (y.1 : Int) = 0 := by decide
      exact this ⟨x, hx⟩ ⟨y, hy⟩ h1
    · have hx : x < 5 := by omega
      have hy : y < 5 := by omega
      have : ∀ x : Fin 5, ∀ y : Fin 5, ((x.1 : Int) * (y.1 : Int)) % 5 = 0 → (x.1 : Int) = 0 ∨ (y.1 : Int) = 0 := by decide
      exact this ⟨x, hx⟩ ⟨y, hy⟩ h1
    · have hx : x < 7 := by omega
      have hy : y < 7 := by omega
      have : ∀ x : Fin 7, ∀ y : Fin 7, ((x.1 : Int) * (y.1 : Int)) % 7 = 0 → (x.1 : Int) = 0 ∨ (y.1 : Int) = 0 := by decide
      exact this ⟨x, hx⟩ ⟨y, hy⟩ h1
  rcases key with k | k
  · exact .inl (Int.dvd_of_emod_eq_zero k)
  · exact .inr (Int.dvd_of_emod_eq_zero k)
theorem inv_ex {p a : Int} (hp : Pr4 p) (h0 : 0 < a) (h1 : a < p) : ∃ r : Nat, 1 ≤ r ∧ (r : Int) < p ∧ (r : Int) * a % p = 1 := by
  rcases hp with rfl | rfl | rfl | rfl
  · have : a = 1 := by omega
    subst this; exact ⟨1, by decide, by decide, by decide⟩
  · have : a = 1 ∨ a = 2 := by omega
    rcases this with rfl | rfl
    · exact ⟨1, by decide, by decide, by decide⟩
    · exact ⟨2, by decide, by decide, by decide⟩
  · have : a = 1 ∨ a = 2 ∨ a = 3 ∨ a = 4 := by omega
    rcases this with rfl | rfl | rfl | rfl
    · exact ⟨1, by decide, by decide, by decide⟩
    · exact ⟨3, by decide, by decide, by decide⟩
    · exact ⟨2, by decide, by decide, by decide⟩
    · exact ⟨4, by decide, by decide, by decide⟩
  · have : a = 1 ∨ a = 2 ∨ a = 3 ∨ a = 4 ∨ a = 5 ∨ a = 6 := by omega
    rcases this with rfl | rfl | rfl | rfl | rfl | rfl
    · exact ⟨1, by decide, by decide, by decide⟩
    · exact ⟨4, by decide, by decide, by decide⟩
    · exact ⟨5, by decide, by decide, by decide⟩
    · exact ⟨2, by decide, by decide, by decide⟩
    · exact ⟨3, by decide, by decide, by decide⟩
    · exact ⟨6, by decide, by decide, by decide⟩
/-- The least inverse. -/
theorem inv_least {p a : Int} (hp : Pr4 p) (h0 : 0 < a) (h1 : a < p) : ∃ r : Nat, 1 ≤ r ∧ (r : Int) < p ∧ (r : Int) * a % p = 1 ∧ ∀ j : Nat, 1 ≤ j → j < r → (j : Int) * a % p ≠ 1 := by
  obtain ⟨r, a1, a2, a3⟩ := inv_ex hp h0 h1
  induction r using Nat.strongRecOn with
  | _ r ih =>
    by_cases h : ∃ j : Nat, 1 ≤ j ∧ j < r ∧ (j : Int) * a % p = 1
    · obtain ⟨j, b1, b2, b3⟩ := h
      exact ih j b2 b1 (by omega) b3
    · exact ⟨r, a1, a2, a3, fun j b1 b2 b3 => h ⟨j, b1, b2, b3⟩⟩
theorem Rk.In01.ok {p : Int} {m : Nat} {xs : List Int} (h : In01 p m xs) (hp : p ≤ 7) : ∀ x ∈ xs, i64ok x := by
  intro x hx
  obtain ⟨j, hj, rfl⟩ := List.getElem_of_mem hx
  have h1 := h.2 j (by have := h.1; omega)
  unfold gi at h1
  rw [List.getD_eq_getElem?_getD, List.getElem?_eq_getElem hj] at h1
  simp only [Option.getD_some] at h1
  exact ⟨by omega, by omega⟩
theorem less_arith {p k a b : Int} (hp : Pr4 p) (hk : 0 ≤ k ∧ k ≤ p) (ha : 0 ≤ a ∧ a < p) (hb : 0 ≤ b ∧ b < p) :
    IntKind.i64.wrap (p - k) = p - k ∧ IntKind.i64.wrap ((p - k) * b) = (p - k) * b ∧ IntKind.i64.wrap (a + (p - k) * b) = a + (p - k) * b ∧ (a + (p - k) * b).tmod p = (a + (p - k) * b) % p ∧ ¬ p = 0 := by
  have hr := hp.rng
  have h0 : 0 ≤ (p - k) * b := Int.mul_nonneg (by omega) hb.1
  have h1 : (p - k) * b ≤ 7 * 7 := Int.mul_le_mul (by omega) (by omega) hb.1 (by omega)
  exact ⟨wr64 _ ⟨by omega, by omega⟩, wr64 _ ⟨by omega, by omega⟩, wr64 _ ⟨by omega, by omega⟩, Int.tmod_eq_emod_of_nonneg (by omega), by omega⟩
set_option maxHeartbeats 2000000 in
theorem l17Less_any (w : World) (p : Int) (A : Option Addr) (c : Nat) (a : List Int) (A' : Option Addr) (c' : Nat) (b : List Int) (k : Int) (m : Nat) (ha : Sl w w.heap.size A m c a) (hb : Sl w w.heap.size A' m c' b) (hm : m ≤ 1000) (hp : Pr4 p) (hk : 0 ≤ k ∧ k ≤ p) (h1 : In01 p m a) (h2 : In01 p m b) :
    Calls Try.prog 36 #[.int .i64 p, .slice A m c, .slice A' m c', .int .i64 k] w (Mk w (lessL p a b k)) := by
  have hlen : (lessL p a b k).length = m := by simp [lessL, h1.1]
  obtain ⟨xs, hX⟩ : ∃ xs, lessL p a b k = xs := ⟨_, rfl⟩
  have HX := hide hX
  rw [hX] at hlen ⊢
  have hrx : ∀ j, j < m → gi xs j = (gi a j + (p - k) * gi b j) % p := fun j hj => by rw [← hX]; exact lessL_gi (by rw [h1.1]; exact hj)
  have HRX := hide hrx
  have HL := hide hlen
  clear hX hrx hlen
  have hpr := hp.rng
  go_enter Try.func36, Try.ntmps36
  go_wp2_with fail
  obtain ⟨W, hW⟩ : ∃ W, w.alloc (.cells #[] 2) = W := ⟨_, rfl⟩
  have hb0 : Below w.heap.size w W := by rw [← hW]; exact (Below.refl _ _).alloc (Nat.le_refl _) _
  have hO0 : Ow W w.heap.size (.slice (some ⟨w.heap.size, 0, none⟩) 0 0) (xs.take 0) := by rw [← hW]; exact Ow.made' (xs := []) _ _ w.heap.size 0 rfl rfl (Nat.le_refl _) rfl (by unfold maxLen; omega)
  rw [hW]
  clear hW
  go_loopw [9, 10] (fun o i wr => ∃ (j : Nat) (vv : Value), j ≤ m ∧ vv = o ∧ i = .int .i64 j ∧ Ow wr w.heap.size vv (xs.take j) ∧ Below w.heap.size w wr) (fun _ i _ => m - (intOf i).toNat)
  case atStart => exact ⟨0, _, by omega, rfl, rfl, hO0, hb0⟩
  case round =>
    clear hO0 hb0
    obtain ⟨j, vv, hj, rfl, rfl, hO, hB⟩ := hrel
    by_cases hlj : j < m
    · obtain ⟨b1, o1, rfl, hb1, hc1⟩ := ha.at_ (by omega)
      obtain ⟨b2, o2, rfl, hb2, hc2⟩ := hb.at_ (by omega)
      have C1 := hide (hc1 j hlj)
      have C2 := hide (hc2 j hlj)
      have r1 := h1.2 j hlj
      have r2 := h2.2 j hlj
      have hgi := HRX.out j hlj
      obtain ⟨v1, e1⟩ : ∃ v, gi a j = v := ⟨_, rfl⟩
      obtain ⟨v2, e2⟩ : ∃ v, gi b j = v := ⟨_, rfl⟩
      rw [e1] at C1 r1 hgi
      rw [e2] at C2 r2 hgi
      obtain ⟨t1, t2, t3, t4, t5⟩ := less_arith hp hk r1 r2
      rw [← hgi] at t4
      obtain ⟨y, hy⟩ : ∃ y, gi xs j = y := ⟨_, rfl⟩
      rw [hy] at t4
      have HY := hide hy
      have hBd := hB.drew
      have hsz := hB.size
      clear hc1 hc2 e1 e2 hgi hy r1 r2
      go_wp2_with fail
      refine wp_region_ord [0, 1, 2, 3, 4, 5, 6, 7, 8, 9, 10, 11, 12, 13, 14, 15, 16, 17, 18] 18 (Below w.heap.size w) (by kernel_rfl) (by kernel_rfl) (by kernel_rfl) (fun _ _ _ _ _ h => h) hBd ?_
      have hBe := hBd
      repeat (first | (apply ord_tk rfl (by rfl) (by rfl) (by rfl); (focus (intro wx hSw; have r1 := (hSw.cell (p := ⟨b1, o1 + j, none⟩) hb1).trans C1.out; have r2 := (hSw.cell (p := ⟨b2, o2 + j, none⟩) hb2).trans C2.out; go_simp; (try with_reducible rfl))); (try simp only [Act.put, List.setIfInBounds_toArray, List.set_cons_zero, List.set_cons_succ])) | (apply ord_skip rfl (by rfl) (by rfl) (fun _ => hBe); (try simp only [Act.put, List.setIfInBounds_toArray, List.set_cons_zero, List.set_cons_succ])))
      refine ord_do rfl (by rfl) (by rfl) (fun K hK => ?_)
      go_simp
      have hBa := hBe.alloc (by simp; omega) (.cells #[.int .i64 y] 2)
      refine hK.out _ _ (fun _ => hBa) ?_
      (try simp only [Act.put, List.setIfInBounds_toArray, List.set_cons_zero, List.set_cons_succ])
      clear hK K
      refine ord_do rfl (by rfl) (by rfl) (fun K hK => ?_)
      refine wp_push _ _ _ (by rfl) w.heap.size vv (xs.take j) (by rfl) (hO.drew.alloc _) _ wr.heap.size _ (by rfl) (Blk.new _ _ _) (by simp; omega) (by simp; omega) (by simp) ?_
      intro g2 cap w2 hP
      have hBp := hP.below (hO.drew.alloc _) (by simp; omega)
      have hB2 := hBa.trans hBp
      have htl : (xs.take j).length = j := by rw [List.length_take, HL.out]; omega
      have hO2 := hP.own
      rw [htl] at hO2 ⊢
      refine hK.out _ _ (fun _ => hB2) ?_
      (try simp only [Act.put, List.setIfInBounds_toArray, List.set_cons_zero, List.set_cons_succ])
      clear hK K
      refine ord_do rfl (by rfl) (by rfl) (fun K hK => ?_)
      go_simp
      refine hK.out _ _ (fun h => absurd h (by omega)) ?_
      (try simp only [Act.put, List.setIfInBounds_toArray, List.set_cons_zero, List.set_cons_succ])
      clear hK K
      refine ord_nil ?_
      have HO2 := hide (show Ow w2 w.heap.size (.slice (some ⟨g2, 0, none⟩) (j + 1) cap) (xs.take (j + 1)) by
        rw [take_gi (by rw [HL.out]; exact hlj), HY.out]; exact hO2)
      clear htl hO2 hP hBp hBa hBe hBd t1 t2 t3 t4
      go_wp2_with fail
      go_roundw
      case rel => exact ⟨j + 1, _, by omega, rfl, by go_num, HO2.out, hB2⟩
      case measure => simp [intOf] <;> omega
    · obtain rfl : m = j := by omega
      have hO2 : Ow wr w.heap.size vv xs := by rw [← List.take_of_length_le (l := xs) (show xs.length ≤ m by rw [HL.out]; exact Nat.le_refl _)]; exact hO
      clear hO
      go_wp2_with fail
      go_ret
      exact ⟨vv, rfl, hO2, hB⟩
end Go.Proofs.Ytnhgflmmfppmnaa
