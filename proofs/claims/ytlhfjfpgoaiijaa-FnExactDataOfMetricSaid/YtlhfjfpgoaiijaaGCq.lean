
/- l06Add on groups of at most 16 elements. -/
import Derived.Test.YtlhfjfpgoaiijaaSa
import Derived.Test.YtlhfjfpgoaiijaaGa
import Derived.Test.YtlhfjfpgoaiijaaNS
import Derived.WalkLawsBesides
namespace Go.Proofs.Ytlhfjfpgoaiijaa
open Go Go.RowKit Grp
set_option linter.unusedSimpArgs false
set_option linter.unusedVariables false
structure OkHq (os : List Int) : Prop where
  l1 : 1 ≤ os.length
  ln : os.length ≤ 1048576
  m1 : ∀ m ∈ os, 1 ≤ m
  p16 : prodL os ≤ 16
theorem OkHq.pos {os : List Int} (h : OkHq os) : Pos os := h.m1
theorem OkHq.posR {os : List Int} (h : OkHq os) : Pos os.reverse := fun m hm => h.pos m (by simpa using hm)
theorem mem_le_prodq {os : List Int} (h : Pos os) : ∀ m ∈ os, m ≤ prodL os := by
  induction os with
  | nil => intro m hm; cases hm
  | cons x r ih =>
    intro m hm
    have hx := h.head
    have hr := prodL_pos h.tail
    simp only [prodL]
    rcases List.mem_cons.1 hm with rfl | hm
    · have : m * 1 ≤ m * prodL r := Int.mul_le_mul_of_nonneg_left hr (by omega)
      omega
    · have h1 := ih h.tail m hm
      have : 1 * prodL r ≤ x * prodL r := Int.mul_le_mul_of_nonneg_right hx (by omega)
      omega
theorem OkHq.m16 {os : List Int} (h : OkHq os) : ∀ m ∈ os, m ≤ 16 := fun m hm => by have := mem_le_prodq h.pos m hm; have := h.p16; omega
theorem OkHq.ge {os : List Int} (h : OkHq os) : 1 ≤ prodL os := prodL_pos h.pos
theorem prodL_snoc'q (xs : List Int) (x : Int) : prodL (xs ++ [x]) = prodL xs * x := by rw [prodL_append]; simp [prodL]
theorem OkHq.take_le {xs : List Int} (h : OkHq xs) (k : Nat) : 1 ≤ prodL (xs.take k) ∧ prodL (xs.take k) ≤ 16 := by
  have e : prodL (xs.take k) * prodL (xs.drop k) = prodL xs := by rw [← prodL_append, List.take_append_drop]
  have p1 : 1 ≤ prodL (xs.take k) := prodL_pos (fun m hm => h.pos m (List.mem_of_mem_take hm))
  have p2 : 1 ≤ prodL (xs.drop k) := prodL_pos (fun m hm => h.pos m (List.mem_of_mem_drop hm))
  have : prodL (xs.take k) * 1 ≤ prodL (xs.take k) * prodL (xs.drop k) := Int.mul_le_mul_of_nonneg_left p2 (by omega)
  have := h.p16
  exact ⟨p1, by omega⟩
theorem arH_rngq {os : List Int} (h : OkHq os) (x y : Int) : 0 ≤ Ar os x y ∧ Ar os x y < prodL os := by have := addR_rng h.posR x y; rwa [prodL_reverse] at this
theorem arH_zeroq {os : List Int} (h : OkHq os) {x : Int} (h0 : 0 ≤ x) (h1 : x < prodL os) : Ar os x 0 = x := addR_zero h.posR x h0 (by rwa [prodL_reverse])
theorem arH_assocq {os : List Int} (h : OkHq os) (x y z : Int) : Ar os (Ar os x y) z = Ar os x (Ar os y z) := addR_assoc h.posR x y z
set_option maxHeartbeats 1000000 in
theorem l06Add_anyq (w : World) (B : Nat) (A : Option Addr) (n c : Nat) (xs : List Int) (x y : Int) (h : Sl w B A n c xs) (hG : OkHq xs) (x0 : 0 ≤ x) (x1 : x ≤ 1000000) (y0 : 0 ≤ y) (y1 : y ≤ 1000000) :
    Calls Try.prog 16 #[.slice A n c, .int .i64 x, .int .i64 y] w (Qt w (.int .i64 (Ar xs x y))) := by
  obtain rfl := h.len
  have h4 := hG.ln
  go_enter Try.func16, Try.ntmps16
  go_wp2
  go_loopw [1, 2, 7, 8, 9] (fun x' y' o t i w' => ∃ (j : Nat) (p q s u : Int), j ≤ xs.length ∧ i = .int .i64 ((j : Int) - 1) ∧ x' = .int .i64 p ∧ y' = .int .i64 q ∧ o = .int .i64 s ∧ t = .int .i64 u ∧ 0 ≤ p ∧ p ≤ 1000000 ∧ 0 ≤ q ∧ q ≤ 1000000 ∧ 0 ≤ s ∧ s < u ∧ u * prodL (xs.take j) = prodL xs ∧ s + u * addR (xs.take j).reverse p q = Ar xs x y ∧ ∃ m, w' = w.drewN m) (fun _ _ _ _ i _ => (intOf i + 1).toNat)
  case atStart => exact ⟨xs.length, x, y, 0, 1, by omega, by simp, rfl, rfl, rfl, rfl, x0, x1, y0, y1, by omega, by omega, by rw [List.take_length]; omega, by rw [List.take_length]; unfold Ar; omega, 0, rfl⟩
  case round =>
    obtain ⟨j, p, q, s, u, hj, rfl, rfl, rfl, rfl, rfl, p0, p1, q0, q1, s0, s1, hN, hS, mm, rfl⟩ := hrel
    have hN' := hide hN
    have hS' := hide hS
    clear hN hS
    by_cases hlt : 0 < j
    · obtain ⟨k, rfl⟩ : ∃ k, j = k + 1 := ⟨j - 1, by omega⟩
      have ek : ((k + 1 : Nat) : Int) - 1 = k := by omega
      rw [ek]
      clear ek
      obtain ⟨b, off, rfl, hb, hc⟩ := h.at_ (by omega)
      have c1 := hc k (by omega)
      clear hc
      have hm2 : 1 ≤ gi xs k := hG.m1 _ (gi_mem (by omega))
      have hm16 : gi xs k ≤ 16 := hG.m16 _ (gi_mem (by omega))
      have hup : u * gi xs k * prodL (xs.take k) = prodL xs := by have := hN'.out; rw [take_gi (by omega), prodL_snoc] at this; rw [← this, Int.mul_assoc, Int.mul_comm (prodL _)]
      have htk := hG.take_le k
      have hu16 : u * gi xs k ≤ 16 := by
        have e : u * gi xs k * 1 ≤ u * gi xs k * prodL (xs.take k) := Int.mul_le_mul_of_nonneg_left htk.1 (Int.mul_nonneg (by omega) (by omega))
        have := hG.p16
        omega
      have hu : u * 1 ≤ u * gi xs k := Int.mul_le_mul_of_nonneg_left hm2 (by omega)
      have hSt : s + u * ((p % gi xs k + q % gi xs k) % gi xs k + gi xs k * addR (xs.take k).reverse (p / gi xs k) (q / gi xs k)) = Ar xs x y := by have := hS'.out; rw [take_rev (by omega)] at this; exact this
      have hST := hide hSt
      have hUP := hide hup
      clear hSt hup htk
      obtain ⟨m, hm⟩ : ∃ m, gi xs k = m := ⟨_, rfl⟩
      rw [hm] at c1 hm2 hm16 hu16 hu hST hUP
      have hM := hide hm
      clear hm
      have t0 : ¬ m = 0 := by omega
      obtain ⟨a1, a2, a3, a4, a5, a6, a7⟩ := digit_facts (show 1 ≤ m by omega) p0 p1
      obtain ⟨b1, b2, b3, b4, b5, b6, b7⟩ := digit_facts (show 1 ≤ m by omega) q0 q1
      have t3 : IntKind.i64.wrap (p % m + q % m) = p % m + q % m := wrap_in (by omega) (by omega)
      have t4 : (p % m + q % m).tmod m = (p % m + q % m) % m := Int.tmod_eq_emod_of_nonneg (by omega)
      obtain ⟨d0, d1⟩ := em (x := p % m + q % m) (show 1 ≤ m by omega)
      have g1 : 0 ≤ (p % m + q % m) % m * u := Int.mul_nonneg d0 (by omega)
      have g2 : ((p % m + q % m) % m + 1) * u ≤ m * u := Int.mul_le_mul_of_nonneg_right (by omega) (by omega)
      rw [Int.add_mul, Int.mul_comm m u] at g2
      obtain ⟨dd, hd⟩ : ∃ dd, (p % m + q % m) % m = dd := ⟨_, rfl⟩
      rw [hd] at t4 g1 g2 d0 d1 hST
      have hD := hide hd
      clear hd
      have t5 : IntKind.i64.wrap (dd * u) = dd * u := wrap_in (by omega) (by omega)
      have t6 : IntKind.i64.wrap (s + dd * u) = s + dd * u := wrap_in (by omega) (by omega)
      have i0 : 0 ≤ (k : Int) := by omega
      have i1 : (k : Int) < (xs.length : Int) := by omega
      go_wp2
      refine wp_region_ord [0, 1, 2, 3, 4, 5, 6, 7, 8, 9, 10, 11, 12, 13, 14, 15, 16, 17, 18, 19, 20, 21, 22] 22 (fun w' => w'.cell? ⟨b, off + k, none⟩ = some (.int .i64 m)) (by kernel_rfl) (by kernel_rfl) (by kernel_rfl) (fun _ _ _ _ _ h => h) ?_ ?_
      · go_simp
      repeat (apply ord_take rfl (by rfl) (by rfl); (focus (intro w hSw; (try dsimp only at hSw); go_simp; (try with_reducible rfl))); (try simp only [Act.put, List.setIfInBounds_toArray, List.set_cons_zero, List.set_cons_succ]))
      refine ord_do rfl (by rfl) (by rfl) (fun K hK => ?_)
      go_simp
      refine hK.out _ _ (fun h => absurd h (by omega)) ?_
      (try simp only [Act.put, List.setIfInBounds_toArray, List.set_cons_zero, List.set_cons_succ])
      clear hK K
      refine ord_nil ?_
      go_wp2
      go_roundw
      case rel =>
        refine ⟨k, p / m, q / m, s + dd * u, u * m, by omega, ?_, rfl, rfl, rfl, rfl, a5, a6, b5, b6, by omega, by omega, hUP.out, ?_, _, rfl⟩
        · go_num
        · rw [← hST.out, Int.mul_add, Int.mul_assoc, Int.mul_comm u dd]; omega
      case measure => simp [intOf] <;> omega
    · obtain rfl : j = 0 := by omega
      go_wp2
      go_ret
      exact Qt.mk' _ rfl (int_eq (by have := hS'.out; simp [addR] at this; exact this))
end Go.Proofs.Ytlhfjfpgoaiijaa
