
/- Groups of orders of at least 1, of at most 16 elements: l06Orders, l06Size, l06Add, groupSize, addElements. -/
import Derived.Test.YtnhgflmmfppmnaaSa
import Derived.Test.YtnhgflmmfppmnaaGa
import Derived.Test.YtnhgflmmfppmnaaNS
import Derived.WalkLawsBesides
namespace Go.Proofs.Ytnhgflmmfppmnaa
open Go Go.RowKit Grp
set_option linter.unusedSimpArgs false
set_option linter.unusedVariables false

structure OkH (os : List Int) : Prop where
  l1 : 1 ≤ os.length
  ln : os.length ≤ 1048576
  m1 : ∀ m ∈ os, 1 ≤ m
  p16 : prodL os ≤ 16
theorem OkH.pos {os : List Int} (h : OkH os) : Pos os := h.m1
theorem OkH.posR {os : List Int} (h : OkH os) : Pos os.reverse := fun m hm => h.pos m (by simpa using hm)
theorem mem_le_prod {os : List Int} (h : Pos os) : ∀ m ∈ os, m ≤ prodL os := by
  induction os with
  | nil => intro m hm; cases hm
  | cons x r ih =>
    intro m hm
    have hx := h.head
    have hr := prodL_pos h.tail
    simp only [prodL]
    rcases List.mem_cons.1 hm with rfl | hm
    · have : m * 1 ≤ m * prodL r := Int.mul_le_mul_of_nonneg_left hr (by omega)
      omega
    · have h1 := ih h.tail m hm
      have : 1 * prodL r ≤ x * prodL r := Int.mul_le_mul_of_nonneg_right hx (by omega)
      omega
theorem OkH.m16 {os : List Int} (h : OkH os) : ∀ m ∈ os, m ≤ 16 := fun m hm => by have := mem_le_prod h.pos m hm; have := h.p16; omega
theorem OkH.ge {os : List Int} (h : OkH os) : 1 ≤ prodL os := prodL_pos h.pos
theorem prodL_snoc' (xs : List Int) (x : Int) : prodL (xs ++ [x]) = prodL xs * x := by rw [prodL_append]; simp [prodL]
theorem OkH.take_le {xs : List Int} (h : OkH xs) (k : Nat) : 1 ≤ prodL (xs.take k) ∧ prodL (xs.take k) ≤ 16 := by
  have e : prodL (xs.take k) * prodL (xs.drop k) = prodL xs := by rw [← prodL_append, List.take_append_drop]
  have p1 : 1 ≤ prodL (xs.take k) := prodL_pos (fun m hm => h.pos m (List.mem_of_mem_take hm))
  have p2 : 1 ≤ prodL (xs.drop k) := prodL_pos (fun m hm => h.pos m (List.mem_of_mem_drop hm))
  have : prodL (xs.take k) * 1 ≤ prodL (xs.take k) * prodL (xs.drop k) := Int.mul_le_mul_of_nonneg_left p2 (by omega)
  have := h.p16
  exact ⟨p1, by omega⟩
theorem arH_rng {os : List Int} (h : OkH os) (x y : Int) : 0 ≤ Ar os x y ∧ Ar os x y < prodL os := by have := addR_rng h.posR x y; rwa [prodL_reverse] at this
theorem arH_zero {os : List Int} (h : OkH os) {x : Int} (h0 : 0 ≤ x) (h1 : x < prodL os) : Ar os x 0 = x := addR_zero h.posR x h0 (by rwa [prodL_reverse])
theorem arH_assoc {os : List Int} (h : OkH os) (x y z : Int) : Ar os (Ar os x y) z = Ar os x (Ar os y z) := addR_assoc h.posR x y z
set_option maxHeartbeats 1000000 in
theorem l06Add_any (w : World) (B : Nat) (A : Option Addr) (n c : Nat) (xs : List Int) (x y : Int) (h : Sl w B A n c xs) (hG : OkH xs) (x0 : 0 ≤ x) (x1 : x ≤ 1000000) (y0 : 0 ≤ y) (y1 : y ≤ 1000000) :
    Calls Try.prog 22 #[.slice A n c, .int .i64 x, .int .i64 y] w (Qt w (.int .i64 (Ar xs x y))) := by
  obtain rfl := h.len
  have h4 := hG.ln
  go_enter Try.func22, Try.ntmps22
  go_wp2
  go_loopw [1, 2, 7, 8, 9] (fun x' y' o t i w' => ∃ (j : Nat) (p q s u : Int), j ≤ xs.length ∧ i = .int .i64 ((j : Int) - 1) ∧ x' = .int .i64 p ∧ y' = .int .i64 q ∧ o = .int .i64 s ∧ t = .int .i64 u ∧ 0 ≤ p ∧ p ≤ 1000000 ∧ 0 ≤ q ∧ q ≤ 1000000 ∧ 0 ≤ s ∧ s < u ∧ u * prodL (xs.take j) = prodL xs ∧ s + u * addR (xs.take j).reverse p q = Ar xs x y ∧ ∃ m, w' = w.drewN m) (fun _ _ _ _ i _ => (intOf i + 1).toNat)
  case atStart => exact ⟨xs.length, x, y, 0, 1, by omega, by simp, rfl, rfl, rfl, rfl, x0, x1, y0, y1, by omega, by omega, by rw [List.take_length]; omega, by rw [List.take_length]; unfold Ar; omega, 0, rfl⟩
  case round =>
    obtain ⟨j, p, q, s, u, hj, rfl, rfl, rfl, rfl, rfl, p0, p1, q0, q1, s0, s1, hN, hS, mm, rfl⟩ := hrel
    have hN' := hide hN
    have hS' := hide hS
    clear hN hS
    by_cases hlt : 0 < j
    · obtain ⟨k, rfl⟩ : ∃ k, j = k + 1 := ⟨j - 1, by omega⟩
      have ek : ((k + 1 : Nat) : Int) - 1 = k := by omega
      rw [ek]
      clear ek
      obtain ⟨b, off, rfl, hb, hc⟩ := h.at_ (by omega)
      have c1 := hc k (by omega)
      clear hc
      have hm2 : 1 ≤ gi xs k := hG.m1 _ (gi_mem (by omega))
      have hm16 : gi xs k ≤ 16 := hG.m16 _ (gi_mem (by omega))
      have hup : u * gi xs k * prodL (xs.take k) = prodL xs := by have := hN'.out; rw [take_gi (by omega), prodL_snoc] at this; rw [← this, Int.mul_assoc, Int.mul_comm (prodL _)]
      have htk := hG.take_le k
      have hu16 : u * gi xs k ≤ 16 := by
        have e : u * gi xs k * 1 ≤ u * gi xs k * prodL (xs.take k) := Int.mul_le_mul_of_nonneg_left htk.1 (Int.mul_nonneg (by omega) (by omega))
        have := hG.p16
        omega
      have hu : u * 1 ≤ u * gi xs k := Int.mul_le_mul_of_nonneg_left hm2 (by omega)
      have hSt : s + u * ((p % gi xs k + q % gi xs k) % gi xs k + gi xs k * addR (xs.take k).reverse (p / gi xs k) (q / gi xs k)) = Ar xs x y := by have := hS'.out; rw [take_rev (by omega)] at this; exact this
      have hST := hide hSt
      have hUP := hide hup
      clear hSt hup htk
      obtain ⟨m, hm⟩ : ∃ m, gi xs k = m := ⟨_, rfl⟩
      rw [hm] at c1 hm2 hm16 hu16 hu hST hUP
      have hM := hide hm
      clear hm
      have t0 : ¬ m = 0 := by omega
      obtain ⟨a1, a2, a3, a4, a5, a6, a7⟩ := digit_facts (show 1 ≤ m by omega) p0 p1
      obtain ⟨b1, b2, b3, b4, b5, b6, b7⟩ := digit_facts (show 1 ≤ m by omega) q0 q1
      have t3 : IntKind.i64.wrap (p % m + q % m) = p % m + q % m := wrap_in (by omega) (by omega)
      have t4 : (p % m + q % m).tmod m = (p % m + q % m) % m := Int.tmod_eq_emod_of_nonneg (by omega)
      obtain ⟨d0, d1⟩ := em (x := p % m + q % m) (show 1 ≤ m by omega)
      have g1 : 0 ≤ (p % m + q % m) % m * u := Int.mul_nonneg d0 (by omega)
      have g2 : ((p % m + q % m) % m + 1) * u ≤ m * u := Int.mul_le_mul_of_nonneg_right (by omega) (by omega)
      rw [Int.add_mul, Int.mul_comm m u] at g2
      obtain ⟨dd, hd⟩ : ∃ dd, (p % m + q % m) % m = dd := ⟨_, rfl⟩
      rw [hd] at t4 g1 g2 d0 d1 hST
      have hD := hide hd
      clear hd
      have t5 : IntKind.i64.wrap (dd * u) = dd * u := wrap_in (by omega) (by omega)
      have t6 : IntKind.i64.wrap (s + dd * u) = s + dd * u := wrap_in (by omega) (by omega)
      have i0 : 0 ≤ (k : Int) := by omega
      have i1 : (k : Int) < (xs.length : Int) := by omega
      go_wp2
      refine wp_region_ord [0, 1, 2, 3, 4, 5, 6, 7, 8, 9, 10, 11, 12, 13, 14, 15, 16, 17, 18, 19, 20, 21, 22] 22 (fun w' => w'.cell? ⟨b, off + k, none⟩ = some (.int .i64 m)) (by kernel_rfl) (by kernel_rfl) (by kernel_rfl) (fun _ _ _ _ _ h => h) ?_ ?_
      · go_simp
      repeat (apply ord_take rfl (by rfl) (by rfl); (focus (intro w hSw; (try dsimp only at hSw); go_simp; (try with_reducible rfl))); (try simp only [Act.put, List.setIfInBounds_toArray, List.set_cons_zero, List.set_cons_succ]))
      refine ord_do rfl (by rfl) (by rfl) (fun K hK => ?_)
      go_simp
      refine hK.out _ _ (fun h => absurd h (by omega)) ?_
      (try simp only [Act.put, List.setIfInBounds_toArray, List.set_cons_zero, List.set_cons_succ])
      clear hK K
      refine ord_nil ?_
      go_wp2
      go_roundw
      case rel =>
        refine ⟨k, p / m, q / m, s + dd * u, u * m, by omega, ?_, rfl, rfl, rfl, rfl, a5, a6, b5, b6, by omega, by omega, hUP.out, ?_, _, rfl⟩
        · go_num
        · rw [← hST.out, Int.mul_add, Int.mul_assoc, Int.mul_comm u dd]; omega
      case measure => simp [intOf] <;> omega
    · obtain rfl : j = 0 := by omega
      go_wp2
      go_ret
      exact Qt.mk' _ rfl (int_eq (by have := hS'.out; simp [addR] at this; exact this))
theorem foldA_ArH {os : List Int} (hG : OkH os) (h : ∀ m ∈ os, 1 ≤ m ∧ m ≤ 1000000) (x y : Int) : (foldA x y (upTo (ixo os h) os.length)).2.2.1 = Ar os x y := by
  unfold foldA
  have hp := hG.p16
  rw [foldA_sum _ _ _ _ _ (by omega) (by omega) (by rw [upTo_ixo, prodL_reverse]; omega), upTo_ixo]
  unfold Ar; omega
theorem addElements_h (w : World) (A : Option Addr) (n c : Nat) (zs : List Int) (a b : Int) (hG : OkH zs) (a0 : 0 ≤ a) (a1 : a ≤ 1000000) (b0 : 0 ≤ b) (b1 : b ≤ 1000000) (h : Sl w w.heap.size A n c zs) :
    Calls Try.prog 28 #[.slice A n c, .int .i64 a, .int .i64 b] w (Re w (.int .i64 (Ar zs a b))) := by
  obtain rfl := h.len
  have hz : ∀ m ∈ zs, 1 ≤ m ∧ m ≤ 1000000 := fun m hm => by have := hG.m1 m hm; have := hG.m16 m hm; omega
  have h4 := hG.ln
  have := callsIn_wide.1 (addElements_in Fence.wide 3 trivial trivial trivial rfl (Nat.le_refl _) A zs.length c zs a b (by omega) (ixo zs hz) (fun k hk => ixo_at hz hk) a0 a1 b0 b1 w h)
  refine this.mono fun e w' he => ?_
  rw [foldA_ArH hG] at he
  exact he
/-! ### sizes -/
theorem gsL_pos (r : List Int) : ∀ s : Int, 1 ≤ s → Pos r → gsL (min 17 s) r = min 17 (s * prodL r) := by
  induction r with
  | nil => intro s _ _; simp [gsL, prodL]
  | cons m r ih =>
    intro s hs h
    have hm := h.head
    have hr := prodL_pos h.tail
    have hsm : 1 * 1 ≤ s * m := Int.mul_le_mul hs hm (by omega) (by omega)
    have key : min 17 (min 17 s * min m 17) = min 17 (s * m) := by
      by_cases h1 : s ≤ 17
      · by_cases h2 : m ≤ 17
        · rw [Int.min_eq_right h1, Int.min_eq_left h2]
        · have e1 : 1 * 17 ≤ s * m := Int.mul_le_mul hs (by omega) (by omega) (by omega)
          have e2 : 1 * 17 ≤ min 17 s * min m 17 := Int.mul_le_mul (by omega) (by omega) (by omega) (by omega)
          omega
      · have e1 : 17 * 1 ≤ s * m := Int.mul_le_mul (by omega) hm (by omega) (by omega)
        have e2 : 17 * 1 ≤ min 17 s * min m 17 := Int.mul_le_mul (by omega) (by omega) (by omega) (by omega)
        omega
    simp only [gsL, prodL]
    rw [if_neg (by omega), key, ih _ (by omega) h.tail, Int.mul_assoc]
theorem gsL_neg (r : List Int) : ∀ s : Int, ¬ Pos r → gsL s r = 0 := by
  induction r with
  | nil => intro s h; exact absurd (fun m hm => by cases hm) h
  | cons m r ih =>
    intro s h
    simp only [gsL]
    by_cases hm : m < 1
    · rw [if_pos hm]
    · rw [if_neg hm]
      refine ih _ fun hp => h fun k hk => ?_
      rcases List.mem_cons.1 hk with rfl | hk
      · omega
      · exact hp k hk
/-- Orders: at least one, none less than 1. -/
def OrdH (os : List Int) : Prop := 1 ≤ os.length ∧ Pos os
open Classical in
noncomputable def ordHB (os : List Int) : Bool := decide (OrdH os)
theorem ordHB_t {os : List Int} (h : OrdH os) : ordHB os = true := by simp [ordHB, h]
theorem ordHB_f {os : List Int} (h : ¬ OrdH os) : ordHB os = false := by simp [ordHB, h]
theorem ordHB_iff {os : List Int} : ordHB os = true ↔ OrdH os := by simp [ordHB]
theorem gsz_ok {os : List Int} (h : OrdH os) : gsz os = min 17 (prodL os) := by
  unfold gsz
  have : os ≠ [] := by intro e; rw [e] at h; simp [OrdH] at h
  rw [if_neg this]
  have := gsL_pos os 1 (by omega) h.2
  rw [show min (17 : Int) 1 = 1 by omega] at this
  rw [this, Int.one_mul]
theorem gsz_no {os : List Int} (h : ¬ OrdH os) : gsz os = 0 := by
  unfold gsz
  split
  · rfl
  · rename_i hne
    refine gsL_neg os 1 fun hp => h ⟨?_, hp⟩
    cases os with
    | nil => exact absurd rfl hne
    | cons m r => simp
theorem okH_of {os : List Int} (h : OrdH os) (hn : os.length ≤ 1048576) (hp : prodL os ≤ 16) : OkH os := ⟨h.1, hn, h.2, hp⟩
set_option maxHeartbeats 1000000 in
theorem l06Orders_any (w : World) (B : Nat) (A : Option Addr) (n c : Nat) (xs : List Int) (h : Sl w B A n c xs) (hn : n ≤ 1048576) : Calls Try.prog 32 #[.slice A n c] w (Qt w (.bool (ordHB xs))) := by
  obtain rfl := h.len
  go_enter Try.func32, Try.ntmps32
  go_wp2_with fail
  go_loopw [3] (fun i wr => ∃ k : Nat, k ≤ xs.length ∧ i = .int .i64 k ∧ Hid (∀ j, j < k → 1 ≤ gi xs j) ∧ ∃ m, w.drewN m = wr) (fun i _ => xs.length - (intOf i).toNat)
  case atStart => exact ⟨0, by omega, rfl, hide fun j hj => absurd hj (by omega), 0, rfl⟩
  case round =>
    obtain ⟨k, hk, rfl, HP, d, rfl⟩ := hrel
    by_cases hlt : k < xs.length
    · obtain ⟨b, off, rfl, hb⟩ := Sl.addr h (by omega)
      have c1 := h.row hlt
      obtain ⟨v, ev⟩ : ∃ v, gi xs k = v := ⟨_, rfl⟩
      rw [ev] at c1
      have EV := hide ev
      clear ev
      by_cases hv : v < 1
      · have hE := hide (ordHB_f (os := xs) fun ho => by have := ho.2 _ (gi_mem hlt); rw [EV.out] at this; omega)
        go_wp2_with fail
        go_ret
        exact Qt.mk' d rfl (bool_eq hE.out.symm)
      · go_wp2_with fail
        go_roundw
        case rel => exact ⟨k + 1, by omega, by go_num, hide fun j hj => (by rcases Nat.lt_succ_iff_lt_or_eq.1 hj with h | rfl; exact HP.out j h; rw [EV.out]; omega), _, rfl⟩
        case measure => simp [intOf] <;> omega
    · obtain rfl : k = xs.length := by omega
      have hpos : Pos xs := fun m hm => by obtain ⟨j, hj, rfl⟩ := List.getElem_of_mem hm; have := HP.out j hj; unfold gi at this; rwa [List.getD_eq_getElem?_getD, List.getElem?_eq_getElem hj] at this
      by_cases h0 : 0 < xs.length
      · have hE := hide (ordHB_t (os := xs) ⟨h0, hpos⟩)
        have h0' : (0 : Int) < xs.length := by omega
        go_wp2_with fail
        go_ret
        exact Qt.mk' d rfl (bool_eq hE.out.symm)
      · have hE := hide (ordHB_f (os := xs) fun ho => h0 ho.1)
        have h0' : ¬ (0 : Int) < xs.length := by omega
        go_wp2_with fail
        go_ret
        exact Qt.mk' d rfl (bool_eq hE.out.symm)
theorem prod_take_le {xs : List Int} (h : Pos xs) (k : Nat) : 1 ≤ prodL (xs.take k) ∧ prodL (xs.take k) ≤ prodL xs := by
  have e : prodL (xs.take k) * prodL (xs.drop k) = prodL xs := by rw [← prodL_append, List.take_append_drop]
  have p1 : 1 ≤ prodL (xs.take k) := prodL_pos (fun m hm => h m (List.mem_of_mem_take hm))
  have p2 : 1 ≤ prodL (xs.drop k) := prodL_pos (fun m hm => h m (List.mem_of_mem_drop hm))
  have : prodL (xs.take k) * 1 ≤ prodL (xs.take k) * prodL (xs.drop k) := Int.mul_le_mul_of_nonneg_left p2 (by omega)
  exact ⟨p1, by omega⟩
set_option maxHeartbeats 1000000 in
theorem l06Size_any (w : World) (B : Nat) (A : Option Addr) (n c : Nat) (xs : List Int) (l : Int) (h : Sl w B A n c xs) (hn : n ≤ 1048576) (hp : Pos xs) (l0 : 1 ≤ l) (l1 : l ≤ 1000) : Calls Try.prog 34 #[.slice A n c, .int .i64 l] w (Qt w (.int .i64 (min (l + 1) (prodL xs)))) := by
  obtain rfl := h.len
  have hw1 : IntKind.i64.wrap (l + 1) = l + 1 := wrap_in (by omega) (by omega)
  go_enter Try.func34, Try.ntmps34
  go_wp2_with fail
  go_loopw [5, 6] (fun o i wr => ∃ (k : Nat) (q : Int), k ≤ xs.length ∧ i = .int .i64 k ∧ o = .int .i64 q ∧ 1 ≤ q ∧ q ≤ l ∧ Hid (q = prodL (xs.take k)) ∧ ∃ m, w.drewN m = wr) (fun _ i _ => xs.length - (intOf i).toNat)
  case atStart => exact ⟨0, 1, by omega, rfl, rfl, by omega, by omega, hide rfl, 0, rfl⟩
  case round =>
    obtain ⟨k, q, hk, rfl, rfl, hq0, hq1, HQ, d, rfl⟩ := hrel
    by_cases hlt : k < xs.length
    · obtain ⟨b, off, rfl, hb⟩ := Sl.addr h (by omega)
      have c1 := h.row hlt
      have hv1 := hp _ (gi_mem hlt)
      have hr := h.lt hlt
      have hnx : prodL (xs.take (k + 1)) = q * gi xs k := by rw [take_gi hlt, prodL_snoc', HQ.out]
      have hle := (prod_take_le hp (k + 1)).2
      obtain ⟨v, ev⟩ : ∃ v, gi xs k = v := ⟨_, rfl⟩
      rw [ev] at c1 hv1 hnx hr
      rw [hnx] at hle
      have HNX := hide hnx
      clear ev hnx
      have hqv : 1 * v ≤ q * v := Int.mul_le_mul_of_nonneg_right hq0 (by omega)
      obtain ⟨N, hN⟩ : ∃ N, prodL xs = N := ⟨_, rfl⟩
      rw [hN] at hle
      have HN := hide hN
      clear hN
      by_cases hv : l < v
      · have hE := hide (show min (l + 1) (prodL xs) = l + 1 by rw [HN.out]; omega)
        clear hw1
        have hw1 : IntKind.i64.wrap (l + 1) = l + 1 := wrap_in (by omega) (by omega)
        go_wp2_with fail
        go_ret
        exact Qt.mk' d rfl (int_eq hE.out.symm)
      · have hqv2 : q * v ≤ 1000 * 1000 := Int.mul_le_mul (by omega) (by omega) (by omega) (by omega)
        have hw2 : IntKind.i64.wrap (q * v) = q * v := wrap_in (by omega) (by omega)
        obtain ⟨p, hpq⟩ : ∃ p, q * v = p := ⟨_, rfl⟩
        rw [hpq] at hw2 hle hqv hqv2 HNX
        by_cases hv2 : l < p
        · have hE := hide (show min (l + 1) (prodL xs) = l + 1 by rw [HN.out]; omega)
          go_wp2_with fail
          go_ret
          exact Qt.mk' d rfl (int_eq hE.out.symm)
        · go_wp2_with fail
          go_roundw
          case rel => exact ⟨k + 1, p, by omega, by go_num, rfl, by omega, by omega, hide HNX.out.symm, _, rfl⟩
          case measure => simp [intOf] <;> omega
    · obtain rfl : k = xs.length := by omega
      have hE := hide (show min (l + 1) (prodL xs) = q by have := HQ.out; rw [List.take_length] at this; omega)
      go_wp2_with fail
      go_ret
      exact Qt.mk' d rfl (int_eq hE.out.symm)
end Go.Proofs.Ytnhgflmmfppmnaa
