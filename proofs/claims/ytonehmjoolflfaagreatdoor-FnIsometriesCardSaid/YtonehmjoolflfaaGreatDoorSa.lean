
/- Valid orders of a group, told plainly, and that the fold of addElements is the sum of elements; no program is walked here. The walks of the reference's functions on groups: l09Orders, l09Group, l09Add and their names of layer 10. The walks of l09Add, l10Add, l10Digits, l10Element, l10Negative. The walks of l10Digits, l10Element, l10Negative. The walk of l10Negative. The walk of l10Pair. -/
import Derived.Test.YtonehmjoolflfaaGreatDoorGa
import Derived.Test.YtonehmjoolflfaaGreatDoorGrp
import Derived.WalkLawsBesides
import Derived.Test.YtonehmjoolflfaaGreatDoorBa
namespace Go.Proofs.YtonehmjoolflfaaGreatDoor
open Go Go.RowKit Grp
set_option linter.unusedSimpArgs false
set_option linter.unusedVariables false

/-- Orders of a group: 1 to 4 of them, each from 2 to 16, at most 16 elements. -/
def okG (os : List Int) : Bool := decide (1 ≤ os.length ∧ os.length ≤ 4 ∧ (∀ m ∈ os, 2 ≤ m ∧ m ≤ 16) ∧ prodL os ≤ 16)
structure OkG (os : List Int) : Prop where
  l1 : 1 ≤ os.length
  l4 : os.length ≤ 4
  m2 : ∀ m ∈ os, 2 ≤ m
  m16 : ∀ m ∈ os, m ≤ 16
  p16 : prodL os ≤ 16
theorem okG_iff {os : List Int} : okG os = true ↔ OkG os := by
  simp only [okG, decide_eq_true_eq]
  exact ⟨fun ⟨a, b, c, d⟩ => ⟨a, b, fun m h => (c m h).1, fun m h => (c m h).2, d⟩, fun h => ⟨h.l1, h.l4, fun m k => ⟨h.m2 m k, h.m16 m k⟩, h.p16⟩⟩

theorem prodL_append (a b : List Int) : prodL (a ++ b) = prodL a * prodL b := by
  induction a with
  | nil => simp [prodL]
  | cons m a ih => simp only [List.cons_append, prodL, ih, Int.mul_assoc]
theorem prodL_reverse (a : List Int) : prodL a.reverse = prodL a := by
  induction a with
  | nil => rfl
  | cons m a ih => rw [List.reverse_cons, prodL_append, ih]; simp [prodL, Int.mul_comm]
theorem OkG.pos {os : List Int} (h : OkG os) : Pos os := fun m hm => by have := h.m2 m hm; omega
theorem OkG.posR {os : List Int} (h : OkG os) : Pos os.reverse := fun m hm => h.pos m (by simpa using hm)
theorem OkG.ge {os : List Int} (h : OkG os) : 2 ≤ prodL os := by
  obtain ⟨l1, _, m2, _, _⟩ := h
  cases os with
  | nil => simp at l1
  | cons m r =>
    have h1 := m2 m (by simp)
    have h2 : 1 ≤ prodL r := prodL_pos (fun k hk => by have := m2 k (by simp [hk]); omega)
    have : 2 * 1 ≤ m * prodL r := Int.mul_le_mul h1 h2 (by omega) (by omega)
    simp only [prodL]; omega
theorem take_rev {zs : List Int} {k : Nat} (h : k < zs.length) : (zs.take (k + 1)).reverse = gi zs k :: (zs.take k).reverse := by rw [take_gi h]; simp

/-- The sum and the negative of elements. -/
def Ar (os : List Int) (x y : Int) : Int := addR os.reverse x y
def Ng (os : List Int) (x : Int) : Int := negR os.reverse x
section
variable {os : List Int} (h : OkG os)
include h
theorem Ar_rng (x y : Int) : 0 ≤ Ar os x y ∧ Ar os x y < prodL os := by have := addR_rng h.posR x y; rwa [prodL_reverse] at this
theorem Ar_assoc (x y z : Int) : Ar os (Ar os x y) z = Ar os x (Ar os y z) := addR_assoc h.posR x y z
theorem Ar_zero {x : Int} (h0 : 0 ≤ x) (h1 : x < prodL os) : Ar os x 0 = x := addR_zero h.posR x h0 (by rwa [prodL_reverse])
theorem Ng_rng (x : Int) : 0 ≤ Ng os x ∧ Ng os x < prodL os := by have := negR_rng h.posR x; rwa [prodL_reverse] at this
theorem Ar_neg (x : Int) : Ar os x (Ng os x) = 0 := addR_neg h.posR x
theorem Ng_unique {x y : Int} (h0 : 0 ≤ y) (h1 : y < prodL os) (he : Ar os x y = 0) : y = Ng os x := neg_unique h.posR h0 (by rwa [prodL_reverse]) he
end
theorem Ar_comm (os : List Int) (x y : Int) : Ar os x y = Ar os y x := addR_comm x y

/-- One digit of a sum. -/
theorem digit_rng {x y m : Int} (hm : 1 ≤ m) : 0 ≤ (x % m + y % m) % m ∧ (x % m + y % m) % m < m := em hm
theorem foldA_sum : ∀ (L : List IxOrd) (x y s p : Int), 0 ≤ s → s < p → p * prodL (L.map (·.1.2)) ≤ 1000000 →
    (L.foldl stepA (x, y, s, p)).2.2.1 = s + p * addR (L.map (·.1.2)) x y := by
  intro L
  induction L with
  | nil => intro x y s p _ _ _; simp [addR]
  | cons e L ih =>
    intro x y s p h0 h1 h2
    obtain ⟨⟨ix, m⟩, hm1, hm2⟩ := e
    simp only at hm1 hm2
    simp only [List.map_cons, prodL] at h2
    have hP : Pos (L.map (·.1.2)) := fun k hk => by
      obtain ⟨e, _, rfl⟩ := List.mem_map.1 hk
      exact e.2.1
    have hN := prodL_pos hP
    have hpm : p * m * 1 ≤ p * m * prodL (L.map (·.1.2)) := Int.mul_le_mul_of_nonneg_left hN (Int.mul_nonneg (by omega) (by omega))
    have hpm' : p * m * prodL (L.map (·.1.2)) ≤ 1000000 := by rw [Int.mul_assoc]; exact h2
    obtain ⟨d0, d1⟩ := em (x := x + y) hm1
    have e1 : 0 ≤ (x + y) % m * p := Int.mul_nonneg d0 (by omega)
    have e2 : ((x + y) % m + 1) * p ≤ m * p := Int.mul_le_mul_of_nonneg_right (by omega) (by omega)
    have e3 : m * p = p * m := Int.mul_comm _ _
    rw [Int.add_mul] at e2
    have hw1 : wrap64 ((x + y) % m * p) = (x + y) % m * p := wrap64_ok _ ⟨by omega, by omega⟩
    have hw2 : wrap64 (s + (x + y) % m * p) = s + (x + y) % m * p := wrap64_ok _ ⟨by omega, by omega⟩
    have hw3 : wrap64 (p * m) = p * m := wrap64_ok _ ⟨by omega, by omega⟩
    have hst : stepA (x, y, s, p) ⟨(ix, m), ⟨hm1, hm2⟩⟩ = (x / m, y / m, s + (x + y) % m * p, p * m) := by
      simp only [stepA]; rw [hw1, hw2, hw3]
    rw [List.foldl_cons, hst, ih _ _ _ _ (by omega) (by omega) hpm']
    simp only [List.map_cons, addR]
    rw [← Int.add_emod, Int.mul_add, Int.mul_assoc p m, Int.mul_comm ((x + y) % m) p]; omega

/-- The k-th round's index and order. -/
def ixo (zs : List Int) (h : ∀ m ∈ zs, 1 ≤ m ∧ m ≤ 1000000) (k : Nat) : IxOrd :=
  if hk : k < zs.length then ⟨((zs.length : Int) - 1 - k, gi zs (zs.length - 1 - k)), h _ (gi_mem (by omega))⟩ else ⟨(0, 1), by decide⟩
theorem ixo_at {zs : List Int} (h : ∀ m ∈ zs, 1 ≤ m ∧ m ≤ 1000000) {k : Nat} (hk : k < zs.length) : (ixo zs h k).1 = ((zs.length : Int) - 1 - k, gi zs (zs.length - 1 - k)) := by
  unfold ixo; rw [dif_pos hk]
theorem upTo_ixo (zs : List Int) (h : ∀ m ∈ zs, 1 ≤ m ∧ m ≤ 1000000) : (upTo (ixo zs h) zs.length).map (·.1.2) = zs.reverse := by
  refine List.ext_getElem (by simp [upTo]) fun i h1 h2 => ?_
  have hi : i < zs.length := by simpa using h2
  simp only [upTo, List.map_map, List.getElem_map, List.getElem_range, Function.comp_apply, ixo_at h hi, List.getElem_reverse]
  unfold gi
  rw [List.getD_eq_getElem?_getD, List.getElem?_eq_getElem (by omega)]; rfl
theorem foldA_Ar {os : List Int} (hG : OkG os) (h : ∀ m ∈ os, 1 ≤ m ∧ m ≤ 1000000) (x y : Int) : (foldA x y (upTo (ixo os h) os.length)).2.2.1 = Ar os x y := by
  unfold foldA
  have hp := hG.p16
  rw [foldA_sum _ _ _ _ _ (by omega) (by omega) (by rw [upTo_ixo, prodL_reverse]; omega), upTo_ixo]
  unfold Ar; omega
theorem addElements_any (w : World) (A : Option Addr) (n c : Nat) (zs : List Int) (a b : Int) (hG : OkG zs) (a0 : 0 ≤ a) (a1 : a ≤ 1000000) (b0 : 0 ≤ b) (b1 : b ≤ 1000000) (h : Sl w w.heap.size A n c zs) :
    Calls Tryz.prog 101 #[.slice A n c, .int .i64 a, .int .i64 b] w (Re w (.int .i64 (Ar zs a b))) := by
  obtain rfl := h.len
  have hz : ∀ m ∈ zs, 1 ≤ m ∧ m ≤ 1000000 := fun m hm => by have := hG.m2 m hm; have := hG.m16 m hm; omega
  have h4 := hG.l4
  have := callsIn_wide.1 (addElements_in Fence.wide 3 trivial trivial trivial rfl (Nat.le_refl _) A zs.length c zs a b (by omega) (ixo zs hz) (fun k hk => ixo_at hz hk) a0 a1 b0 b1 w h)
  refine this.mono fun e w' he => ?_
  rw [foldA_Ar hG] at he
  exact he

theorem prodL_snoc (xs : List Int) (x : Int) : prodL (xs ++ [x]) = prodL xs * x := by rw [prodL_append]; simp [prodL]
theorem okG_f {xs : List Int} {k : Nat} (hk : k < xs.length) (h : ¬ (2 ≤ gi xs k ∧ gi xs k ≤ 16)) : okG xs = false := by
  refine Bool.eq_false_iff.2 fun hb => h ?_
  have := okG_iff.1 hb
  exact ⟨this.m2 _ (gi_mem hk), this.m16 _ (gi_mem hk)⟩
theorem okG_len {xs : List Int} (h : ¬ (1 ≤ xs.length ∧ xs.length ≤ 4)) : okG xs = false := by
  refine Bool.eq_false_iff.2 fun hb => h ?_
  have := okG_iff.1 hb
  exact ⟨this.l1, this.l4⟩
theorem okG_end {xs : List Int} (h1 : 1 ≤ xs.length) (h4 : xs.length ≤ 4) (h : ∀ m ∈ xs, 2 ≤ m ∧ m ≤ 16) : okG xs = decide (prodL xs ≤ 16) := by
  unfold okG; exact decide_eq_decide.2 ⟨fun h => h.2.2.2, fun k => ⟨h1, h4, h, k⟩⟩
theorem pow16 {q m : Int} {k : Nat} (hk : k < 4) (h0 : 1 ≤ q) (h1 : q ≤ 16 ^ k) (m0 : 2 ≤ m) (m1 : m ≤ 16) : 1 ≤ q * m ∧ q * m ≤ 16 ^ (k + 1) ∧ q * m ≤ 65536 := by
  have e1 : 1 * 2 ≤ q * m := Int.mul_le_mul h0 m0 (by omega) (by omega)
  have e2 : q * m ≤ 16 ^ k * 16 := Int.mul_le_mul h1 m1 (by omega) (by omega)
  have e3 : (16 : Int) ^ k * 16 = 16 ^ (k + 1) := by rw [Int.pow_succ]
  have e4 : (16 : Int) ^ (k + 1) ≤ 65536 := by
    obtain rfl | rfl | rfl | rfl : k = 0 ∨ k = 1 ∨ k = 2 ∨ k = 3 := by omega
    all_goals decide
  exact ⟨by omega, by omega, by omega⟩

theorem l09Orders_any (w : World) (B : Nat) (A : Option Addr) (n c : Nat) (xs : List Int) (h : Sl w B A n c xs) (hn : n ≤ 1073741824) : Calls Tryz.prog 96 #[.slice A n c, .int .i64 16] w (Qt w (.bool (okG xs))) := by
  obtain rfl := h.len
  by_cases h1 : 1 ≤ xs.length
  · by_cases h4 : xs.length ≤ 4
    · go_enter Tryz.func96, Tryz.ntmps96
      go_wp2_with fail
      go_loopw [5, 6] (fun s i w' => ∃ (k : Nat) (q : Int), k ≤ xs.length ∧ i = .int .i64 k ∧ s = .int .i64 q ∧ 1 ≤ q ∧ q ≤ 16 ^ k ∧ q = prodL (xs.take k) ∧ (∀ m ∈ xs.take k, 2 ≤ m ∧ m ≤ 16) ∧ ∃ m, w' = w.drewN m) (fun _ i _ => xs.length - (intOf i).toNat)
      case atStart => exact ⟨0, 1, by omega, rfl, rfl, by omega, by simp, rfl, by simp, 0, rfl⟩
      case round =>
        obtain ⟨k, q, hk, rfl, rfl, hq1, hq2, hq3, hpre, mm, rfl⟩ := hrel
        have hP := hide hpre
        clear hpre
        have hQ := hide hq3
        clear hq3
        by_cases hlt : k < xs.length
        · obtain ⟨b, off, rfl, hb, hc⟩ := h.at_ (by omega)
          have c1 := hc k hlt
          clear hc
          by_cases hm : 2 ≤ gi xs k ∧ gi xs k ≤ 16
          · obtain ⟨p1, p2, p3⟩ := pow16 (show k < 4 by omega) hq1 hq2 hm.1 hm.2
            have hm' := hide hm
            clear hm
            have hnew : ∀ m ∈ xs.take (k + 1), 2 ≤ m ∧ m ≤ 16 := by
              rw [take_gi hlt]
              intro m hm
              rcases List.mem_append.1 hm with hm | hm
              · exact hP.out m hm
              · obtain rfl : m = gi xs k := by simpa using hm
                exact hm'.out
            have hN := hide hnew
            clear hnew
            go_wp2_with fail
            refine (l01In_t _ _ _ _ hm'.out.1 hm'.out.2).mono ?_
            rintro e w' ⟨rfl, m, rfl⟩
            go_wp2_with fail
            go_roundw
            case rel => exact ⟨k + 1, q * gi xs k, by omega, by go_num, rfl, by omega, by omega, by rw [take_gi hlt, prodL_snoc, hQ.out], hN.out, _, rfl⟩
            case measure => simp [intOf]; omega
          · have hf := okG_f hlt hm
            have hF := hide hf
            clear hf
            go_wp2_with fail
            refine (l01In_f _ _ _ _ hm).mono ?_
            rintro e w' ⟨rfl, m, rfl⟩
            go_wp2_with fail
            go_ret
            exact Qt.d1 (bool_eq hF.out.symm)
        · obtain rfl : k = xs.length := by omega
          have he : okG xs = decide (q ≤ 16) := by rw [hQ.out, List.take_length]; exact okG_end h1 h4 (fun m hm => hP.out m (by rw [List.take_length]; exact hm))
          have hE := hide he
          clear he
          go_wp2
          go_ret
          exact Qt.d1 (bool_eq hE.out.symm)
    · have hf := okG_len (xs := xs) (by omega)
      have hF := hide hf
      clear hf
      go_enter Tryz.func96, Tryz.ntmps96
      go_wp2_with fail
      go_ret
      exact Qt.mk' 0 rfl (bool_eq hF.out.symm)
  · have hf := okG_len (xs := xs) (by omega)
    have hF := hide hf
    clear hf
    go_enter Tryz.func96, Tryz.ntmps96
    go_wp2_with fail
    go_ret
    exact Qt.mk' 0 rfl (bool_eq hF.out.symm)
theorem l10Orders_any (w : World) (B : Nat) (A : Option Addr) (n c : Nat) (xs : List Int) (h : Sl w B A n c xs) (hn : n ≤ 1073741824) : Calls Tryz.prog 65 #[.slice A n c] w (Qt w (.bool (okG xs))) := by
  go_enter Tryz.func65, Tryz.ntmps65
  go_wp2_with fail
  refine (l09Orders_any _ _ _ _ _ _ h hn).mono ?_
  rintro e w' ⟨rfl, m, rfl⟩
  go_wp2
  go_ret
  exact Qt.d1 rfl

theorem OkG.take_le {xs : List Int} (h : OkG xs) (k : Nat) : 1 ≤ prodL (xs.take k) ∧ prodL (xs.take k) ≤ 16 := by
  have e : prodL (xs.take k) * prodL (xs.drop k) = prodL xs := by rw [← prodL_append, List.take_append_drop]
  have p1 : 1 ≤ prodL (xs.take k) := prodL_pos (fun m hm => h.pos m (List.mem_of_mem_take hm))
  have p2 : 1 ≤ prodL (xs.drop k) := prodL_pos (fun m hm => h.pos m (List.mem_of_mem_drop hm))
  have : prodL (xs.take k) * 1 ≤ prodL (xs.take k) * prodL (xs.drop k) := Int.mul_le_mul_of_nonneg_left p2 (by omega)
  have := h.p16
  exact ⟨p1, by omega⟩
theorem l09Group_any (w : World) (B : Nat) (A : Option Addr) (n c : Nat) (xs : List Int) (h : Sl w B A n c xs) (hG : OkG xs) : Calls Tryz.prog 87 #[.slice A n c] w (Qt w (.int .i64 (prodL xs))) := by
  obtain rfl := h.len
  have h4 := hG.l4
  go_enter Tryz.func87, Tryz.ntmps87
  go_wp2
  go_loop [3, 4] (fun s i => ∃ (k : Nat) (q : Int), k ≤ xs.length ∧ i = .int .i64 k ∧ s = .int .i64 q ∧ q = prodL (xs.take k)) (fun _ i => xs.length - (intOf i).toNat)
  case atStart => exact ⟨0, 1, by omega, rfl, rfl, rfl⟩
  case round =>
    obtain ⟨k, q, hk, rfl, rfl, hq⟩ := hrel
    by_cases hlt : k < xs.length
    · obtain ⟨b, off, rfl, hb, hc⟩ := h.at_ (by omega)
      have c1 := hc k hlt
      clear hc
      have e1 := hG.take_le (k + 1)
      have e2 : prodL (xs.take (k + 1)) = q * gi xs k := by rw [take_gi hlt, prodL_snoc, hq]
      rw [e2] at e1
      have hQ := hide e2
      clear e2 hq
      go_wp2
      go_round
      case rel => exact ⟨k + 1, q * gi xs k, by omega, by go_num, rfl, hQ.out.symm⟩
      case measure => simp [intOf]; omega
    · obtain rfl : k = xs.length := by omega
      go_wp2
      go_ret
      exact Qt.mk' 0 rfl (int_eq (by first | rfl | (rw [List.take_length] at hq; exact hq)))
theorem l10Size_any (w : World) (B : Nat) (A : Option Addr) (n c : Nat) (xs : List Int) (h : Sl w B A n c xs) (hG : OkG xs) : Calls Tryz.prog 50 #[.slice A n c] w (Qt w (.int .i64 (prodL xs))) := by
  go_enter Tryz.func50, Tryz.ntmps50
  go_wp2_with fail
  refine (l09Group_any _ _ _ _ _ _ h hG).mono ?_
  rintro e w' ⟨rfl, m, rfl⟩
  go_wp2
  go_ret
  exact Qt.d1 rfl

theorem wrap_in {x : Int} (h : -9000000000000000000 ≤ x) (k : x ≤ 9000000000000000000) : IntKind.i64.wrap x = x := wr64 _ ⟨by omega, by omega⟩
theorem digit_facts {x m : Int} (hm : 1 ≤ m) (x0 : 0 ≤ x) (x1 : x ≤ 1000000) :
    x.tmod m = x % m ∧ x.tdiv m = x / m ∧ 0 ≤ x % m ∧ x % m < m ∧ 0 ≤ x / m ∧ x / m ≤ 1000000 ∧ IntKind.i64.wrap (x / m) = x / m := by
  have a := Int.ediv_nonneg x0 (show 0 ≤ m by omega)
  have b := Int.ediv_le_self m x0
  obtain ⟨c, d⟩ := em (x := x) hm
  exact ⟨Int.tmod_eq_emod_of_nonneg x0, Int.tdiv_eq_ediv_of_nonneg x0, c, d, a, by omega, wrap_in (by omega) (by omega)⟩

set_option maxHeartbeats 1000000 in
theorem l09Add_any (w : World) (B : Nat) (A : Option Addr) (n c : Nat) (xs : List Int) (x y : Int) (h : Sl w B A n c xs) (hG : OkG xs) (x0 : 0 ≤ x) (x1 : x ≤ 1000000) (y0 : 0 ≤ y) (y1 : y ≤ 1000000) :
    Calls Tryz.prog 97 #[.slice A n c, .int .i64 x, .int .i64 y] w (Qt w (.int .i64 (Ar xs x y))) := by
  obtain rfl := h.len
  have h4 := hG.l4
  go_enter Tryz.func97, Tryz.ntmps97
  go_wp2
  go_loopw [1, 2, 7, 8, 9] (fun x' y' o t i w' => ∃ (j : Nat) (p q s u : Int), j ≤ xs.length ∧ i = .int .i64 ((j : Int) - 1) ∧ x' = .int .i64 p ∧ y' = .int .i64 q ∧ o = .int .i64 s ∧ t = .int .i64 u ∧ 0 ≤ p ∧ p ≤ 1000000 ∧ 0 ≤ q ∧ q ≤ 1000000 ∧ 0 ≤ s ∧ s < u ∧ u * prodL (xs.take j) = prodL xs ∧ s + u * addR (xs.take j).reverse p q = Ar xs x y ∧ ∃ m, w' = w.drewN m) (fun _ _ _ _ i _ => (intOf i + 1).toNat)
  case atStart => exact ⟨xs.length, x, y, 0, 1, by omega, by simp, rfl, rfl, rfl, rfl, x0, x1, y0, y1, by omega, by omega, by rw [List.take_length]; omega, by rw [List.take_length]; unfold Ar; omega, 0, rfl⟩
  case round =>
    obtain ⟨j, p, q, s, u, hj, rfl, rfl, rfl, rfl, rfl, p0, p1, q0, q1, s0, s1, hN, hS, mm, rfl⟩ := hrel
    have hN' := hide hN
    have hS' := hide hS
    clear hN hS
    by_cases hlt : 0 < j
    · obtain ⟨k, rfl⟩ : ∃ k, j = k + 1 := ⟨j - 1, by omega⟩
      have ek : ((k + 1 : Nat) : Int) - 1 = k := by omega
      rw [ek]
      clear ek
      obtain ⟨b, off, rfl, hb, hc⟩ := h.at_ (by omega)
      have c1 := hc k (by omega)
      clear hc
      have hm2 : 2 ≤ gi xs k := hG.m2 _ (gi_mem (by omega))
      have hm16 : gi xs k ≤ 16 := hG.m16 _ (gi_mem (by omega))
      have hup : u * gi xs k * prodL (xs.take k) = prodL xs := by have := hN'.out; rw [take_gi (by omega), prodL_snoc] at this; rw [← this, Int.mul_assoc, Int.mul_comm (prodL _)]
      have htk := hG.take_le k
      have hu16 : u * gi xs k ≤ 16 := by
        have e : u * gi xs k * 1 ≤ u * gi xs k * prodL (xs.take k) := Int.mul_le_mul_of_nonneg_left htk.1 (Int.mul_nonneg (by omega) (by omega))
        have := hG.p16
        omega
      have hu : u * 2 ≤ u * gi xs k := Int.mul_le_mul_of_nonneg_left hm2 (by omega)
      have hSt : s + u * ((p % gi xs k + q % gi xs k) % gi xs k + gi xs k * addR (xs.take k).reverse (p / gi xs k) (q / gi xs k)) = Ar xs x y := by have := hS'.out; rw [take_rev (by omega)] at this; exact this
      have hST := hide hSt
      have hUP := hide hup
      clear hSt hup htk
      obtain ⟨m, hm⟩ : ∃ m, gi xs k = m := ⟨_, rfl⟩
      rw [hm] at c1 hm2 hm16 hu16 hu hST hUP
      have hM := hide hm
      clear hm
      have t0 : ¬ m = 0 := by omega
      obtain ⟨a1, a2, a3, a4, a5, a6, a7⟩ := digit_facts (show 1 ≤ m by omega) p0 p1
      obtain ⟨b1, b2, b3, b4, b5, b6, b7⟩ := digit_facts (show 1 ≤ m by omega) q0 q1
      have t3 : IntKind.i64.wrap (p % m + q % m) = p % m + q % m := wrap_in (by omega) (by omega)
      have t4 : (p % m + q % m).tmod m = (p % m + q % m) % m := Int.tmod_eq_emod_of_nonneg (by omega)
      obtain ⟨d0, d1⟩ := em (x := p % m + q % m) (show 1 ≤ m by omega)
      have g1 : 0 ≤ (p % m + q % m) % m * u := Int.mul_nonneg d0 (by omega)
      have g2 : ((p % m + q % m) % m + 1) * u ≤ m * u := Int.mul_le_mul_of_nonneg_right (by omega) (by omega)
      rw [Int.add_mul, Int.mul_comm m u] at g2
      obtain ⟨dd, hd⟩ : ∃ dd, (p % m + q % m) % m = dd := ⟨_, rfl⟩
      rw [hd] at t4 g1 g2 d0 d1 hST
      have hD := hide hd
      clear hd
      have t5 : IntKind.i64.wrap (dd * u) = dd * u := wrap_in (by omega) (by omega)
      have t6 : IntKind.i64.wrap (s + dd * u) = s + dd * u := wrap_in (by omega) (by omega)
      have i0 : 0 ≤ (k : Int) := by omega
      have i1 : (k : Int) < (xs.length : Int) := by omega
      go_wp2
      refine wp_region_ord [0, 1, 2, 3, 4, 5, 6, 7, 8, 9, 10, 11, 12, 13, 14, 15, 16, 17, 18, 19, 20, 21, 22] 22 (fun w' => w'.cell? ⟨b, off + k, none⟩ = some (.int .i64 m)) (by kernel_rfl) (by kernel_rfl) (by kernel_rfl) (fun _ _ _ _ _ h => h) ?_ ?_
      · go_simp
      repeat (apply ord_take rfl (by rfl) (by rfl); (focus (intro w hSw; (try dsimp only at hSw); go_simp; (try with_reducible rfl))); (try simp only [Act.put, List.setIfInBounds_toArray, List.set_cons_zero, List.set_cons_succ]))
      refine ord_do rfl (by rfl) (by rfl) (fun K hK => ?_)
      go_simp
      refine hK.out _ _ (fun h => absurd h (by omega)) ?_
      (try simp only [Act.put, List.setIfInBounds_toArray, List.set_cons_zero, List.set_cons_succ])
      clear hK K
      refine ord_nil ?_
      go_wp2
      go_roundw
      case rel =>
        refine ⟨k, p / m, q / m, s + dd * u, u * m, by omega, ?_, rfl, rfl, rfl, rfl, a5, a6, b5, b6, by omega, by omega, hUP.out, ?_, _, rfl⟩
        · go_num
        · rw [← hST.out, Int.mul_add, Int.mul_assoc, Int.mul_comm u dd]; omega
      case measure => simp [intOf] <;> omega
    · obtain rfl : j = 0 := by omega
      go_wp2
      go_ret
      exact Qt.mk' _ rfl (int_eq (by have := hS'.out; simp [addR] at this; exact this))
theorem l10Add_any (w : World) (B : Nat) (A : Option Addr) (n c : Nat) (xs : List Int) (x y : Int) (h : Sl w B A n c xs) (hG : OkG xs) (x0 : 0 ≤ x) (x1 : x ≤ 1000000) (y0 : 0 ≤ y) (y1 : y ≤ 1000000) :
    Calls Tryz.prog 69 #[.slice A n c, .int .i64 x, .int .i64 y] w (Qt w (.int .i64 (Ar xs x y))) := by
  go_enter Tryz.func69, Tryz.ntmps69
  go_wp2_with fail
  refine (l09Add_any _ _ _ _ _ _ _ _ h hG x0 x1 y0 y1).mono ?_
  rintro e w' ⟨rfl, m, rfl⟩
  go_wp2
  go_ret
  exact Qt.d1 rfl

/-- The digits of an element, the last first; the element of digits; the digits of a negative. -/
def digR : List Int → Int → List Int
  | [], _ => []
  | m :: r, x => x % m :: digR r (x / m)
def Dg (os : List Int) (x : Int) : List Int := (digR os.reverse x).reverse
def elR : List Int → List Int → Int
  | m :: r, t :: s => t + m * elR r s
  | _, _ => 0
def negd (m t : Int) : Int := (m - t) % m
theorem digR_length (r : List Int) : ∀ x, (digR r x).length = r.length := by
  induction r with
  | nil => intro x; rfl
  | cons m r ih => intro x; simp [digR, ih]
theorem Dg_length (os : List Int) (x : Int) : (Dg os x).length = os.length := by simp [Dg, digR_length]
theorem negR_el (r : List Int) : ∀ x, elR r (List.zipWith negd r (digR r x)) = negR r x := by
  induction r with
  | nil => intro x; rfl
  | cons m r ih => intro x; simp only [digR, List.zipWith_cons_cons, elR, ih, negR]; rfl
theorem elR_digR {r : List Int} (h : Pos r) : ∀ x, 0 ≤ x → x < prodL r → elR r (digR r x) = x := by
  induction r with
  | nil => intro x h0 h1; simp [prodL] at h1; simp [elR]; omega
  | cons m r ih =>
    intro x h0 h1
    have hm := h.head
    have q0 : 0 ≤ x / m := Int.ediv_nonneg h0 (by omega)
    have q1 : x / m < prodL r := Int.ediv_lt_of_lt_mul (by omega) (by rw [Int.mul_comm]; exact h1)
    simp only [digR, elR]
    rw [ih h.tail _ q0 q1]
    exact Int.emod_add_mul_ediv x m
theorem digR_rng {r : List Int} (h : Pos r) : ∀ x, 0 ≤ x → ∀ k, k < r.length → 0 ≤ gi (digR r x) k ∧ gi (digR r x) k < gi r k := by
  induction r with
  | nil => intro x _ k hk; simp at hk
  | cons m r ih =>
    intro x hx k hk
    cases k with
    | zero => simpa [digR, gi] using em (x := x) h.head
    | succ k => simpa [digR, gi] using ih h.tail (x / m) (Int.ediv_nonneg hx (by have := h.head; omega)) k (by simpa using hk)
theorem gi_reverse {xs : List Int} {k : Nat} (hk : k < xs.length) : gi xs.reverse k = gi xs (xs.length - 1 - k) := by
  unfold gi
  rw [List.getD_eq_getElem?_getD, List.getD_eq_getElem?_getD, List.getElem?_reverse hk]
theorem Dg_rng {os : List Int} (h : OkG os) {x : Int} (hx : 0 ≤ x) {k : Nat} (hk : k < os.length) : 0 ≤ gi (Dg os x) k ∧ gi (Dg os x) k < gi os k := by
  have hl := digR_length os.reverse x
  have := digR_rng h.posR x hx (os.length - 1 - k) (by simp; omega)
  unfold Dg
  rw [gi_reverse (by rw [hl]; simpa using hk), hl, List.length_reverse]
  rw [gi_reverse (by omega)] at this
  rw [show os.length - 1 - (os.length - 1 - k) = k by omega] at this
  exact this

/-- A row of n cells, those from k on hold the elements of xs. -/
def FilledT (cs : Array Value) (n k : Nat) (xs : List Int) : Prop := cs.size = n ∧ ∀ j, k ≤ j → j < n → cs[j]? = some (.int .i64 (gi xs j))
theorem FilledT.set_ {cs : Array Value} {n k : Nat} {xs : List Int} {v : Int} (h : FilledT cs n (k + 1) xs) (hk : k < n) (hv : v = gi xs k) : FilledT (cs.setIfInBounds k (.int .i64 v)) n k xs := by
  subst hv
  refine ⟨by simp [h.1], fun j hj hjn => ?_⟩
  rw [Array.getElem?_setIfInBounds]
  have := h.1
  by_cases e : k = j
  · subst e; simp [show k < cs.size by omega]
  · rw [if_neg e]; exact h.2 j (by omega) hjn
theorem FilledT.all {cs : Array Value} {n : Nat} {xs : List Int} (h : FilledT cs n 0 xs) : Filled cs n n xs := ⟨h.1, fun j hj => h.2 j (Nat.zero_le _) hj⟩
theorem FilledT.some_ {cs : Array Value} {n k j : Nat} {xs : List Int} (h : FilledT cs n k xs) (hj : j < n) : ∃ u, cs[j]? = some u := ⟨cs[j]'(by rw [h.1]; exact hj), Array.getElem?_eq_getElem _⟩

theorem gi_take {xs : List Int} {k j : Nat} (h : j < k) : gi (xs.take k) j = gi xs j := by
  unfold gi; rw [List.getD_eq_getElem?_getD, List.getD_eq_getElem?_getD, List.getElem?_take_of_lt h]

theorem l10Digits_any (w : World) (B : Nat) (A : Option Addr) (n c : Nat) (xs : List Int) (x : Int) (h : Sl w B A n c xs) (hB : B ≤ w.heap.size) (hG : OkG xs) (x0 : 0 ≤ x) (x1 : x ≤ 1000000) :
    Calls Tryz.prog 51 #[.slice A n c, .int .i64 x] w (Mk w (Dg xs x)) := by
  obtain ⟨i0, hi0, hz0, hz1, hz2⟩ := info_parts int_info
  obtain rfl := h.len
  have h4 := hG.l4
  have hmk := fun W => run_make (P := Tryz.prog) (w := W) 24 2 i0 (.int .i64 0) Tryz.underlying24 hi0 hz0 .i64 .i64 xs.length xs.length (by omega) (by omega) (by rw [hz2]; omega) (by omega)
  simp only [hz1, Int.toNat_natCast, Nat.mul_one] at hmk
  go_enter Tryz.func51, Tryz.ntmps51
  go_wp2
  go_loopw [1, 6] (fun x' i wr => ∃ (j : Nat) (p : Int) (cs : Array Value), j ≤ xs.length ∧ i = .int .i64 ((j : Int) - 1) ∧ x' = .int .i64 p ∧ 0 ≤ p ∧ p ≤ 1000000 ∧ FilledT cs xs.length j (Dg xs x) ∧ (digR (xs.take j).reverse p).reverse = (Dg xs x).take j ∧ w.alloc (.cells cs 2) = wr) (fun _ i _ => (intOf i + 1).toNat)
  case atStart => exact ⟨xs.length, x, _, by omega, by simp, rfl, x0, x1, ⟨size_madeCells _ _, fun j hj hk => absurd hj (by omega)⟩, by rw [List.take_length, List.take_of_length_le (by rw [Dg_length]; omega)]; rfl, rfl⟩
  case round =>
    obtain ⟨j, p, cs, hj, rfl, rfl, p0, p1, hF, hD, rfl⟩ := hrel
    have hD' := hide hD
    clear hD hmk
    by_cases hlt : 0 < j
    · obtain ⟨k, rfl⟩ : ∃ k, j = k + 1 := ⟨j - 1, by omega⟩
      have ek : ((k + 1 : Nat) : Int) - 1 = k := by omega
      rw [ek]
      clear ek
      obtain ⟨b, off, rfl, hb, hc⟩ := h.at_ (by omega)
      have hbw : b < w.heap.size := by omega
      have c1 := hc k (by omega)
      clear hc
      obtain ⟨u, c2⟩ := hF.some_ (show k < xs.length by omega)
      have hm2 : 2 ≤ gi xs k := hG.m2 _ (gi_mem (by omega))
      have hst : (digR (xs.take k).reverse (p / gi xs k)).reverse = (Dg xs x).take k ∧ p % gi xs k = gi (Dg xs x) k := by
        have e := hD'.out
        rw [take_rev (by omega)] at e
        have hl := Dg_length xs x
        rw [take_gi (by omega), digR, List.reverse_cons] at e
        have := List.append_inj' e rfl
        exact ⟨this.1, by simpa using this.2⟩
      obtain ⟨m, hm⟩ : ∃ m, gi xs k = m := ⟨_, rfl⟩
      rw [hm] at c1 hm2 hst
      have hS := hide hst
      have hM := hide hm
      clear hm hst
      have t0 : ¬ m = 0 := by omega
      obtain ⟨a1, a2, a3, a4, a5, a6, a7⟩ := digit_facts (show 1 ≤ m by omega) p0 p1
      go_wp2
      go_roundw
      case rel => exact ⟨k, p / m, _, by omega, by go_num, rfl, a5, a6, hF.set_ (by omega) hS.out.2, hS.out.1, rfl⟩
      case measure => simp [intOf] <;> omega
    · obtain rfl : j = 0 := by omega
      go_wp2
      go_ret
      exact ⟨_, rfl, Ow.made' _ _ _ _ rfl (hF.all.done (Dg_length xs x)) (Nat.le_refl _) (Dg_length xs x) (by unfold maxLen; omega), (Below.refl _ _).alloc (Nat.le_refl _) _⟩

theorem l10Element_any (w : World) (B : Nat) (A : Option Addr) (n c : Nat) (xs : List Int) (A' : Option Addr) (c' : Nat) (ys : List Int) (h : Sl w B A n c xs) (h' : Sl w B A' n c' ys) (hG : OkG xs)
    (hy : ∀ k, k < n → 0 ≤ gi ys k ∧ gi ys k < gi xs k) :
    Calls Tryz.prog 52 #[.slice A n c, .slice A' n c'] w (Qt w (.int .i64 (elR xs.reverse ys.reverse))) := by
  obtain rfl := h.len
  have h4 := hG.l4
  have hl : ys.length = xs.length := h'.len
  have hL := hide hl
  clear hl
  go_enter Tryz.func52, Tryz.ntmps52
  go_wp2
  go_loopw [5, 6] (fun o i w' => ∃ (k : Nat) (q : Int), k ≤ xs.length ∧ i = .int .i64 k ∧ o = .int .i64 q ∧ 0 ≤ q ∧ q < prodL (xs.take k) ∧ q = elR (xs.take k).reverse (ys.take k).reverse ∧ ∃ m, w' = w.drewN m) (fun _ i _ => xs.length - (intOf i).toNat)
  case atStart => exact ⟨0, 0, by omega, rfl, rfl, by omega, by simp [prodL], rfl, 0, rfl⟩
  case round =>
    obtain ⟨k, q, hk, rfl, rfl, q0, q1, hq, mm, rfl⟩ := hrel
    have hQ := hide hq
    clear hq
    by_cases hlt : k < xs.length
    · obtain ⟨b, off, rfl, hb, hc⟩ := h.at_ (by omega)
      obtain ⟨b', off', rfl, hb', hc'⟩ := h'.at_ (by omega)
      have c1 := hc k hlt
      have c2 := hc' k hlt
      clear hc hc'
      have hm2 : 2 ≤ gi xs k := hG.m2 _ (gi_mem hlt)
      obtain ⟨y0, y1⟩ := hy k hlt
      have htk := hG.take_le (k + 1)
      have hp : prodL (xs.take (k + 1)) = prodL (xs.take k) * gi xs k := by rw [take_gi hlt, prodL_snoc]
      rw [hp] at htk
      have g1 : (q + 1) * gi xs k ≤ prodL (xs.take k) * gi xs k := Int.mul_le_mul_of_nonneg_right (by omega) (by omega)
      rw [Int.add_mul] at g1
      have g2 : 0 ≤ q * gi xs k := Int.mul_nonneg q0 (by omega)
      have hst : q * gi xs k + gi ys k = elR (xs.take (k + 1)).reverse (ys.take (k + 1)).reverse := by
        rw [take_rev hlt, take_rev (by rw [hL.out]; exact hlt), elR, hQ.out, Int.mul_comm]; omega
      have hS := hide hst
      have hP := hide hp
      clear hst hp
      have hlt2 : q * gi xs k + gi ys k < prodL (xs.take k) * gi xs k := by omega
      have hz16 : prodL (xs.take k) * gi xs k ≤ 16 := htk.2
      have hLT := hide hlt2
      clear htk hy
      obtain ⟨m, hm⟩ : ∃ m, gi xs k = m := ⟨_, rfl⟩
      obtain ⟨t, ht⟩ : ∃ t, gi ys k = t := ⟨_, rfl⟩
      rw [hm] at c1 g1 g2 hS hLT hm2 y1 hP hz16 hlt2
      rw [ht] at c2 y0 y1 hS hLT hlt2
      have hMT := hide (And.intro hm ht)
      clear hm ht
      obtain ⟨z, hz⟩ : ∃ z, prodL (xs.take k) * m = z := ⟨_, rfl⟩
      rw [hz] at g1 hlt2 hz16 hLT
      have hZ := hide hz
      clear hz
      have t5 : IntKind.i64.wrap (q * m) = q * m := wrap_in (by omega) (by omega)
      have t6 : IntKind.i64.wrap (q * m + t) = q * m + t := wrap_in (by omega) (by omega)
      have i0 : 0 ≤ (k : Int) := by omega
      have i1 : (k : Int) < (xs.length : Int) := by omega
      go_wp2
      refine wp_region_ord [0, 1, 2, 3, 4, 5, 6, 7, 8, 9, 10, 11] 11 (fun w' => w'.cell? ⟨b, off + k, none⟩ = some (.int .i64 m) ∧ w'.cell? ⟨b', off' + k, none⟩ = some (.int .i64 t)) (by kernel_rfl) (by kernel_rfl) (by kernel_rfl) (fun _ _ _ _ _ h => h) ⟨?_, ?_⟩ ?_
      · go_simp
      · go_simp
      repeat (apply ord_take rfl (by rfl) (by rfl); (focus (intro w hSw; (try dsimp only at hSw); go_simp; (try with_reducible rfl))); (try simp only [Act.put, List.setIfInBounds_toArray, List.set_cons_zero, List.set_cons_succ]))
      refine ord_do rfl (by rfl) (by rfl) (fun K hK => ?_)
      go_simp
      refine hK.out _ _ (fun h => absurd h (by omega)) ?_
      (try simp only [Act.put, List.setIfInBounds_toArray, List.set_cons_zero, List.set_cons_succ])
      clear hK K
      refine ord_nil ?_
      go_wp2
      go_roundw
      case rel => exact ⟨k + 1, q * m + t, by omega, by go_num, rfl, by omega, by rw [hP.out, hZ.out]; omega, hS.out, _, rfl⟩
      case measure => simp [intOf] <;> omega
    · obtain rfl : k = xs.length := by omega
      go_wp2
      go_ret
      refine Qt.mk' _ rfl (int_eq ?_)
      have e := hQ.out
      rw [List.take_length, List.take_of_length_le (by rw [hL.out]; omega)] at e
      exact e

theorem mix_set {zs ts : List Int} (hl : zs.length = ts.length) {k : Nat} (hk : k < ts.length) : (zs.take k ++ ts.drop k).set k (gi zs k) = zs.take (k + 1) ++ ts.drop (k + 1) := by
  rw [take_gi (show k < zs.length by omega), drop_gi hk, List.set_append_right _ _ (by simp; omega)]
  simp [show min k zs.length = k by omega]
theorem mix_gi {zs ts : List Int} (hl : zs.length = ts.length) {k : Nat} (hk : k < ts.length) : gi (zs.take k ++ ts.drop k) k = gi ts k := by
  rw [drop_gi hk]
  unfold gi
  rw [List.getD_eq_getElem?_getD, List.getElem?_append_right (by simp; omega)]
  simp [show min k zs.length = k by omega]
theorem mix_len {zs ts : List Int} (hl : zs.length = ts.length) {k : Nat} (hk : k ≤ ts.length) : (zs.take k ++ ts.drop k).length = ts.length := by simp; omega
theorem gi_zip {f : Int → Int → Int} {xs ys : List Int} (hl : xs.length = ys.length) {k : Nat} (hk : k < xs.length) : gi (List.zipWith f xs ys) k = f (gi xs k) (gi ys k) := by
  unfold gi
  simp only [List.getD_eq_getElem?_getD, List.getElem?_zipWith, List.getElem?_eq_getElem hk, List.getElem?_eq_getElem (show k < ys.length by omega)]
  rfl
def Zg (os : List Int) (x : Int) : List Int := List.zipWith negd os (Dg os x)
theorem Zg_len (os : List Int) (x : Int) : (Zg os x).length = (Dg os x).length := by simp [Zg, Dg_length]
theorem Zg_el (os : List Int) (x : Int) : elR os.reverse (Zg os x).reverse = Ng os x := by
  unfold Zg Ng
  rw [List.reverse_zipWith (by rw [Dg_length]), ← negR_el]
  unfold Dg
  rw [List.reverse_reverse]
theorem Zg_rng {os : List Int} (h : OkG os) (x : Int) {k : Nat} (hk : k < os.length) : 0 ≤ gi (Zg os x) k ∧ gi (Zg os x) k < gi os k := by
  unfold Zg
  rw [gi_zip (by rw [Dg_length]) hk]
  exact em (h.pos _ (gi_mem hk))

set_option maxHeartbeats 1000000 in
theorem l10Negative_any (w : World) (B : Nat) (A : Option Addr) (n c : Nat) (xs : List Int) (x : Int) (h : Sl w B A n c xs) (hB : B ≤ w.heap.size) (hG : OkG xs) (x0 : 0 ≤ x) (x1 : x ≤ 1000000) :
    Calls Tryz.prog 67 #[.slice A n c, .int .i64 x] w (Re w (.int .i64 (Ng xs x))) := by
  obtain rfl := h.len
  have h4 := hG.l4
  have h1 := hG.l1
  have hlD := Dg_length xs x
  have hdr := fun k hk => Dg_rng hG x0 (k := k) hk
  have hzr := fun k hk => Zg_rng hG x (k := k) hk
  have hHD := hide hdr
  have hHZ := hide hzr
  have hLD := hide hlD
  clear hdr hzr hlD
  go_enter Tryz.func67, Tryz.ntmps67
  go_wp2_with fail
  refine (l10Digits_any _ _ _ _ _ _ _ h hB hG x0 x1).mono ?_
  rintro e W ⟨v, rfl, hO, hbl⟩
  rcases hO.form with ⟨_, h0⟩ | ⟨g, cap, rfl, hg, hgl, hcap⟩
  · have := hLD.out; rw [h0] at this; simp at this; omega
  rw [hLD.out] at hO hcap ⊢
  go_wp2
  go_loopw [6] (fun i wr => ∃ (k : Nat), k ≤ xs.length ∧ i = .int .i64 k ∧ Ow wr w.heap.size (.slice (some ⟨g, 0, none⟩) xs.length cap) ((Zg xs x).take k ++ (Dg xs x).drop k) ∧ Below w.heap.size w wr) (fun i _ => xs.length - (intOf i).toNat)
  case atStart => exact ⟨0, by omega, rfl, hO, hbl⟩
  case round =>
    obtain ⟨k, hk, rfl, hOw, hb2⟩ := hrel
    by_cases hlt : k < xs.length
    · have hx := h.below (w' := wr) (hb2.mono hB)
      obtain ⟨b, off, rfl, hb, hc⟩ := hx.at_ (by omega)
      have c1 := hc k hlt
      clear hc
      have hlk : ((Zg xs x).take k ++ (Dg xs x).drop k).length = xs.length := by rw [mix_len (Zg_len _ _) (by rw [hLD.out]; omega), hLD.out]
      have c2 := hOw.cell hlk.symm hlt
      have f2 := hOw.frozen hlk.symm k
      rw [mix_gi (Zg_len _ _) (by rw [hLD.out]; exact hlt)] at c2
      have hnx := hOw.store hlk.symm k (gi (Zg xs x) k)
      rw [mix_set (Zg_len _ _) (by rw [hLD.out]; exact hlt)] at hnx
      have hz : gi (Zg xs x) k = (gi xs k - gi (Dg xs x) k) % gi xs k := by unfold Zg; rw [gi_zip (by rw [hLD.out]) hlt]; rfl
      rw [hz] at hnx
      obtain ⟨d0, d1⟩ := hHD.out k hlt
      have hm2 : 2 ≤ gi xs k := hG.m2 _ (gi_mem hlt)
      have hm16 : gi xs k ≤ 16 := hG.m16 _ (gi_mem hlt)
      clear hz hlk
      obtain ⟨m, hm⟩ : ∃ m, gi xs k = m := ⟨_, rfl⟩
      obtain ⟨t, ht⟩ : ∃ t, gi (Dg xs x) k = t := ⟨_, rfl⟩
      rw [hm] at c1 hm2 hm16 d1 hnx
      rw [ht] at c2 d0 d1 hnx
      clear hm ht
      have t0 : ¬ m = 0 := by omega
      have t5 : IntKind.i64.wrap (m - t) = m - t := wrap_in (by omega) (by omega)
      have t6 : (m - t).tmod m = (m - t) % m := Int.tmod_eq_emod_of_nonneg (by omega)
      have i0 : 0 ≤ (k : Int) := by omega
      have i1 : (k : Int) < (xs.length : Int) := by omega
      rw [show (m - t) % m = -t % m by simp] at hnx
      go_wp2
      refine wp_region_ord [0, 1, 2, 3, 4, 5, 6, 7, 8, 9, 10, 11, 12, 13, 14, 15, 16, 17] 16 (fun w' => w'.cell? ⟨b, off + k, none⟩ = some (.int .i64 m) ∧ w'.cell? ⟨g, k, none⟩ = some (.int .i64 t)) (by kernel_rfl) (by kernel_rfl) (by kernel_rfl) (fun _ _ _ _ _ h => h) ⟨?_, ?_⟩ ?_
      · go_simp
      · go_simp
      repeat (apply ord_take rfl (by rfl) (by rfl); (focus (intro w hSw; (try dsimp only at hSw); go_simp; (try with_reducible rfl))); (try simp only [Act.put, List.setIfInBounds_toArray, List.set_cons_zero, List.set_cons_succ]))
      refine ord_do rfl (by rfl) (by rfl) (fun K hK => ?_)
      go_simp
      refine hK.out _ _ (fun h => absurd h (by omega)) ?_
      (try simp only [Act.put, List.setIfInBounds_toArray, List.set_cons_zero, List.set_cons_succ])
      clear hK K
      refine ord_do rfl (by rfl) (by rfl) (fun K hK => ?_)
      go_simp
      refine hK.out _ _ (fun h => absurd h (by omega)) ?_
      (try simp only [Act.put, List.setIfInBounds_toArray, List.set_cons_zero, List.set_cons_succ])
      clear hK K
      refine ord_nil ?_
      go_wp2
      go_roundw
      case rel => exact ⟨k + 1, by omega, by go_num, hnx.drew, (hb2.drew).setCell (by dsimp only; omega) _⟩
      case measure => simp [intOf] <;> omega
    · obtain rfl : k = xs.length := by omega
      have hOw' : Ow wr w.heap.size (.slice (some ⟨g, 0, none⟩) xs.length cap) (Zg xs x) := by
        rw [List.take_of_length_le (by rw [Zg_len, hLD.out]; omega), List.drop_of_length_le (by rw [hLD.out]; omega), List.append_nil] at hOw
        exact hOw
      obtain ⟨A2, c2, he, hs2⟩ := hOw'.sl (fun y hy => by
        obtain ⟨j, hj, rfl⟩ := List.getElem_of_mem hy
        have hj' : j < xs.length := by rw [Zg_len, hLD.out] at hj; exact hj
        have := hHZ.out j hj'
        have hm16 : gi xs j ≤ 16 := hG.m16 _ (gi_mem hj')
        unfold gi at this
        rw [List.getD_eq_getElem?_getD, List.getElem?_eq_getElem hj] at this
        unfold gi at hm16
        simp only [Option.getD_some] at this
        exact ⟨by omega, by omega⟩)
      have hlz : (Zg xs x).length = xs.length := by rw [Zg_len, hLD.out]
      rw [hlz] at he hs2
      obtain ⟨rfl, rfl⟩ : some ⟨g, 0, none⟩ = A2 ∧ cap = c2 := by cases he; exact ⟨rfl, rfl⟩
      have hx := (h.below (w' := wr) (hb2.mono hB)).more (show B ≤ wr.heap.size by have := hb2.size; omega)
      have hE := Zg_el xs x
      have hEE := hide hE
      clear hE
      go_wp2_with fail
      refine (l10Element_any _ _ _ _ _ _ _ _ _ hx hs2 hG (fun k hk => hHZ.out k hk)).mono ?_
      rintro e W' ⟨rfl, m, rfl⟩
      go_wp2
      go_ret
      exact ⟨by rw [hEE.out]; rfl, below_drewN hb2 _⟩

/-- Lists that make a metric up to its law: valid orders, a modulus, as many values as elements, each less than the modulus. -/
structure OkM (os : List Int) (D : Int) (vs : List Int) : Prop where
  g : OkG os
  d1 : 1 ≤ D
  d2 : D ≤ 55440
  len : (vs.length : Int) = prodL os
  rng : ∀ v ∈ vs, 0 ≤ v ∧ v < D
/-- A value, and the pairing of two elements. -/
def Vl (vs : List Int) (x : Int) : Int := gi vs x.toNat
def Pr (os : List Int) (D : Int) (vs : List Int) (x y : Int) : Int := (Vl vs (Ar os x y) - Vl vs x - Vl vs y) % D
theorem OkM.vl {os vs : List Int} {D : Int} (h : OkM os D vs) {k : Nat} (hk : (k : Int) < prodL os) : k < vs.length ∧ 0 ≤ gi vs k ∧ gi vs k < D := by
  have hl := h.len
  have : k < vs.length := by omega
  exact ⟨this, h.rng _ (gi_mem this)⟩
theorem OkM.lt {os vs : List Int} {D : Int} (h : OkM os D vs) : vs.length ≤ 16 := by have := h.len; have := h.g.p16; omega
theorem Pr_rng {os vs : List Int} {D : Int} (h : OkM os D vs) (x y : Int) : 0 ≤ Pr os D vs x y ∧ Pr os D vs x y < D := em h.d1

set_option maxHeartbeats 1000000 in
theorem l10Pair_any (w : World) (A : Option Addr) (n c : Nat) (os : List Int) (D : Int) (A' : Option Addr) (n' c' : Nat) (vs : List Int) (x y : Nat)
    (h : Sl w w.heap.size A n c os) (h' : Sl w w.heap.size A' n' c' vs) (hM : OkM os D vs) (hx : (x : Int) < prodL os) (hy : (y : Int) < prodL os) :
    Calls Tryz.prog 68 #[.agg #[.slice A n c, .int .i64 D, .slice A' n' c'], .int .i64 x, .int .i64 y] w (Re w (.int .i64 (Pr os D vs x y))) := by
  obtain rfl := h'.len
  have hp16 := hM.g.p16
  have d1 := hM.d1
  have d2 := hM.d2
  obtain ⟨z, hz⟩ : ∃ z : Nat, Ar os x y = (z : Int) := ⟨(Ar os x y).toNat, by have := Ar_rng hM.g x y; omega⟩
  have hzl : (z : Int) < prodL os := by have := Ar_rng hM.g x y; omega
  obtain ⟨lx, vx0, vx1⟩ := hM.vl hx
  obtain ⟨ly, vy0, vy1⟩ := hM.vl hy
  obtain ⟨lz, vz0, vz1⟩ := hM.vl hzl
  obtain ⟨b, off, rfl, hb, hc⟩ := h'.at_ (by omega)
  have c1 := hc x lx
  have c2 := hc y ly
  have c3 := hc z lz
  have hP : Pr os D vs x y = (gi vs z - gi vs x - gi vs y) % D := by unfold Pr Vl; rw [hz]; rfl
  have hPP := hide hP
  have hZ := hide hz
  clear hc hP
  obtain ⟨vx, ex⟩ : ∃ vx, gi vs x = vx := ⟨_, rfl⟩
  obtain ⟨vy, ey⟩ : ∃ vy, gi vs y = vy := ⟨_, rfl⟩
  obtain ⟨vz, ez⟩ : ∃ vz, gi vs z = vz := ⟨_, rfl⟩
  rw [ex] at c1 vx0 vx1 hPP
  rw [ey] at c2 vy0 vy1 hPP
  rw [ez] at c3 vz0 vz1 hPP
  clear ex ey ez
  have t1 : IntKind.i64.wrap (vz - vx) = vz - vx := wrap_in (by omega) (by omega)
  have t2 : IntKind.i64.wrap (vz - vx - vy) = vz - vx - vy := wrap_in (by omega) (by omega)
  have t3 : ¬ D = 0 := by omega
  have t4 := rest_eq (vz - vx - vy) D d1
  have t5 : IntKind.i64.wrap ((vz - vx - vy).tmod D + D) = (vz - vx - vy).tmod D + D := by
    refine wrap_in ?_ ?_
    · have := Int.lt_tmod_of_pos (vz - vx - vy) (show 0 < D by omega); omega
    · have := Int.tmod_lt_of_pos (vz - vx - vy) (show 0 < D by omega); omega
  go_enter Tryz.func68, Tryz.ntmps68
  go_wp2
  refine wp_region_dr [0, 1, 2, 3, 4, 5, 9, 10, 11, 12, 13, 15, 16, 17, 18, 19, 6, 7, 8, 14, 20, 21] 21 (w.alloc (.cells #[.slice A n c, .int .i64 D, .slice (some ⟨b, off, none⟩) vs.length c'] 26)) (by kernel_rfl) (by kernel_rfl) (by kernel_rfl) (fun _ _ _ _ _ h => h) (Dr.refl _) (fun wd hDr => ?_)
  repeat (first | (apply ord_tk rfl (by rfl) (by rfl) (by rfl); (focus (rintro w ⟨dm, rfl⟩; go_simp; (try with_reducible rfl))); (try simp only [Act.put, List.setIfInBounds_toArray, List.set_cons_zero, List.set_cons_succ])) | (apply ord_skip rfl (by rfl) (by rfl) (fun _ => hDr); (try simp only [Act.put, List.setIfInBounds_toArray, List.set_cons_zero, List.set_cons_succ])))
  refine ord_do rfl (by rfl) (by rfl) (fun K hK => ?_)
  go_simp
  refine (l10Add_any _ _ _ _ _ _ _ _ (h.below (hDr.below (by repeat (first | assumption | exact Below.refl _ _ | apply below_drewN | apply Below.drew | apply Below.alloc | apply Below.setCell | omega | (focus (simp; done)) | (focus (simp; omega)))))) hM.g (by omega) (by omega) (by omega) (by omega)).mono ?_
  rintro e wd' ⟨rfl, dm, hwd⟩
  replace hDr := hDr.step hwd
  clear hwd
  refine hK.out _ _ (fun _ => hDr) ?_
  (try simp only [Act.put, List.setIfInBounds_toArray, List.set_cons_zero, List.set_cons_succ])
  clear hK K
  rw [hz]
  repeat (first | (apply ord_tk rfl (by rfl) (by rfl) (by rfl); (focus (rintro w ⟨dm, rfl⟩; go_simp; (try with_reducible rfl))); (try simp only [Act.put, List.setIfInBounds_toArray, List.set_cons_zero, List.set_cons_succ])) | (apply ord_skip rfl (by rfl) (by rfl) (fun _ => hDr); (try simp only [Act.put, List.setIfInBounds_toArray, List.set_cons_zero, List.set_cons_succ])))
  refine ord_do rfl (by rfl) (by rfl) (fun K hK => ?_)
  go_simp
  refine hK.out _ _ (fun h => absurd h (by omega)) ?_
  (try simp only [Act.put, List.setIfInBounds_toArray, List.set_cons_zero, List.set_cons_succ])
  clear hK K
  refine ord_nil ?_
  go_wp2
  refine wp_region_dr [0, 1, 2, 3, 4, 5, 6, 7, 8, 9, 10] 10 (w.alloc (.cells #[.slice A n c, .int .i64 D, .slice (some ⟨b, off, none⟩) vs.length c'] 26)) (by kernel_rfl) (by kernel_rfl) (by kernel_rfl) (fun _ _ _ _ _ h => h) hDr (fun wd hDr => ?_)
  repeat (first | (apply ord_tk rfl (by rfl) (by rfl) (by rfl); (focus (rintro w ⟨dm, rfl⟩; go_simp; (try with_reducible rfl))); (try simp only [Act.put, List.setIfInBounds_toArray, List.set_cons_zero, List.set_cons_succ])) | (apply ord_skip rfl (by rfl) (by rfl) (fun _ => hDr); (try simp only [Act.put, List.setIfInBounds_toArray, List.set_cons_zero, List.set_cons_succ])))
  refine ord_do rfl (by rfl) (by rfl) (fun K hK => ?_)
  go_simp
  refine hK.out _ _ (fun h => absurd h (by omega)) ?_
  (try simp only [Act.put, List.setIfInBounds_toArray, List.set_cons_zero, List.set_cons_succ])
  clear hK K
  refine ord_nil ?_
  go_wp2
  go_ret
  exact ⟨by rw [hPP.out]; rfl, hDr.below (by repeat (first | assumption | exact Below.refl _ _ | apply below_drewN | apply Below.drew | apply Below.alloc | apply Below.setCell | omega | (focus (simp; done)) | (focus (simp; omega))))⟩
end Go.Proofs.YtonehmjoolflfaaGreatDoor
