
/- The walks of l10Digits, l10Element, l10Negative. -/
import Derived.Test.YtneflhachjlmkaaS2
import Derived.WalkLawsBesides
namespace Go.Proofs.Ytneflhachjlmkaa
open Go Go.RowKit Grp
set_option linter.unusedSimpArgs false
set_option linter.unusedVariables false

/-- The digits of an element, the last first; the element of digits; the digits of a negative. -/
def digR : List Int → Int → List Int
  | [], _ => []
  | m :: r, x => x % m :: digR r (x / m)
def Dg (os : List Int) (x : Int) : List Int := (digR os.reverse x).reverse
def elR : List Int → List Int → Int
  | m :: r, t :: s => t + m * elR r s
  | _, _ => 0
def negd (m t : Int) : Int := (m - t) % m
theorem digR_length (r : List Int) : ∀ x, (digR r x).length = r.length := by
  induction r with
  | nil => intro x; rfl
  | cons m r ih => intro x; simp [digR, ih]
theorem Dg_length (os : List Int) (x : Int) : (Dg os x).length = os.length := by simp [Dg, digR_length]
theorem negR_el (r : List Int) : ∀ x, elR r (List.zipWith negd r (digR r x)) = negR r x := by
  induction r with
  | nil => intro x; rfl
  | cons m r ih => intro x; simp only [digR, List.zipWith_cons_cons, elR, ih, negR]; rfl
theorem elR_digR {r : List Int} (h : Pos r) : ∀ x, 0 ≤ x → x < prodL r → elR r (digR r x) = x := by
  induction r with
  | nil => intro x h0 h1; simp [prodL] at h1; simp [elR]; omega
  | cons m r ih =>
    intro x h0 h1
    have hm := h.head
    have q0 : 0 ≤ x / m := Int.ediv_nonneg h0 (by omega)
    have q1 : x / m < prodL r := Int.ediv_lt_of_lt_mul (by omega) (by rw [Int.mul_comm]; exact h1)
    simp only [digR, elR]
    rw [ih h.tail _ q0 q1]
    exact Int.emod_add_mul_ediv x m
theorem digR_rng {r : List Int} (h : Pos r) : ∀ x, 0 ≤ x → ∀ k, k < r.length → 0 ≤ gi (digR r x) k ∧ gi (digR r x) k < gi r k := by
  induction r with
  | nil => intro x _ k hk; simp at hk
  | cons m r ih =>
    intro x hx k hk
    cases k with
    | zero => simpa [digR, gi] using em (x := x) h.head
    | succ k => simpa [digR, gi] using ih h.tail (x / m) (Int.ediv_nonneg hx (by have := h.head; omega)) k (by simpa using hk)
theorem gi_reverse {xs : List Int} {k : Nat} (hk : k < xs.length) : gi xs.reverse k = gi xs (xs.length - 1 - k) := by
  unfold gi
  rw [List.getD_eq_getElem?_getD, List.getD_eq_getElem?_getD, List.getElem?_reverse hk]
theorem Dg_rng {os : List Int} (h : OkG os) {x : Int} (hx : 0 ≤ x) {k : Nat} (hk : k < os.length) : 0 ≤ gi (Dg os x) k ∧ gi (Dg os x) k < gi os k := by
  have hl := digR_length os.reverse x
  have := digR_rng h.posR x hx (os.length - 1 - k) (by simp; omega)
  unfold Dg
  rw [gi_reverse (by rw [hl]; simpa using hk), hl, List.length_reverse]
  rw [gi_reverse (by omega)] at this
  rw [show os.length - 1 - (os.length - 1 - k) = k by omega] at this
  exact this

/-- A row of n cells, those from k on hold the elements of xs. -/
def FilledT (cs : Array Value) (n k : Nat) (xs : List Int) : Prop := cs.size = n ∧ ∀ j, k ≤ j → j < n → cs[j]? = some (.int .i64 (gi xs j))
theorem FilledT.set_ {cs : Array Value} {n k : Nat} {xs : List Int} {v : Int} (h : FilledT cs n (k + 1) xs) (hk : k < n) (hv : v = gi xs k) : FilledT (cs.setIfInBounds k (.int .i64 v)) n k xs := by
  subst hv
  refine ⟨by simp [h.1], fun j hj hjn => ?_⟩
  rw [Array.getElem?_setIfInBounds]
  have := h.1
  by_cases e : k = j
  · subst e; simp [show k < cs.size by omega]
  · rw [if_neg e]; exact h.2 j (by omega) hjn
theorem FilledT.all {cs : Array Value} {n : Nat} {xs : List Int} (h : FilledT cs n 0 xs) : Filled cs n n xs := ⟨h.1, fun j hj => h.2 j (Nat.zero_le _) hj⟩
theorem FilledT.some_ {cs : Array Value} {n k j : Nat} {xs : List Int} (h : FilledT cs n k xs) (hj : j < n) : ∃ u, cs[j]? = some u := ⟨cs[j]'(by rw [h.1]; exact hj), Array.getElem?_eq_getElem _⟩

theorem gi_take {xs : List Int} {k j : Nat} (h : j < k) : gi (xs.take k) j = gi xs j := by
  unfold gi; rw [List.getD_eq_getElem?_getD, List.getD_eq_getElem?_getD, List.getElem?_take_of_lt h]

theorem l10Digits_any (w : World) (B : Nat) (A : Option Addr) (n c : Nat) (xs : List Int) (x : Int) (h : Sl w B A n c xs) (hB : B ≤ w.heap.size) (hG : OkG xs) (x0 : 0 ≤ x) (x1 : x ≤ 1000000) :
    Calls Try.prog 181 #[.slice A n c, .int .i64 x] w (Mk w (Dg xs x)) := by
  obtain ⟨i0, hi0, hz0, hz1, hz2⟩ := info_parts int_info
  obtain rfl := h.len
  have h4 := hG.l4
  have hmk := fun W => run_make (P := Try.prog) (w := W) 22 2 i0 (.int .i64 0) Try.underlying22 hi0 hz0 .i64 .i64 xs.length xs.length (by omega) (by omega) (by rw [hz2]; omega) (by omega)
  simp only [hz1, Int.toNat_natCast, Nat.mul_one] at hmk
  go_enter Try.func181, Try.ntmps181
  go_wp2
  go_loopw [1, 6] (fun x' i wr => ∃ (j : Nat) (p : Int) (cs : Array Value), j ≤ xs.length ∧ i = .int .i64 ((j : Int) - 1) ∧ x' = .int .i64 p ∧ 0 ≤ p ∧ p ≤ 1000000 ∧ FilledT cs xs.length j (Dg xs x) ∧ (digR (xs.take j).reverse p).reverse = (Dg xs x).take j ∧ w.alloc (.cells cs 2) = wr) (fun _ i _ => (intOf i + 1).toNat)
  case atStart => exact ⟨xs.length, x, _, by omega, by simp, rfl, x0, x1, ⟨size_madeCells _ _, fun j hj hk => absurd hj (by omega)⟩, by rw [List.take_length, List.take_of_length_le (by rw [Dg_length]; omega)]; rfl, rfl⟩
  case round =>
    obtain ⟨j, p, cs, hj, rfl, rfl, p0, p1, hF, hD, rfl⟩ := hrel
    have hD' := hide hD
    clear hD hmk
    by_cases hlt : 0 < j
    · obtain ⟨k, rfl⟩ : ∃ k, j = k + 1 := ⟨j - 1, by omega⟩
      have ek : ((k + 1 : Nat) : Int) - 1 = k := by omega
      rw [ek]
      clear ek
      obtain ⟨b, off, rfl, hb, hc⟩ := h.at_ (by omega)
      have hbw : b < w.heap.size := by omega
      have c1 := hc k (by omega)
      clear hc
      obtain ⟨u, c2⟩ := hF.some_ (show k < xs.length by omega)
      have hm2 : 2 ≤ gi xs k := hG.m2 _ (gi_mem (by omega))
      have hst : (digR (xs.take k).reverse (p / gi xs k)).reverse = (Dg xs x).take k ∧ p % gi xs k = gi (Dg xs x) k := by
        have e := hD'.out
        rw [take_rev (by omega)] at e
        have hl := Dg_length xs x
        rw [take_gi (by omega), digR, List.reverse_cons] at e
        have := List.append_inj' e rfl
        exact ⟨this.1, by simpa using this.2⟩
      obtain ⟨m, hm⟩ : ∃ m, gi xs k = m := ⟨_, rfl⟩
      rw [hm] at c1 hm2 hst
      have hS := hide hst
      have hM := hide hm
      clear hm hst
      have t0 : ¬ m = 0 := by omega
      obtain ⟨a1, a2, a3, a4, a5, a6, a7⟩ := digit_facts (show 1 ≤ m by omega) p0 p1
      go_wp2
      go_roundw
      case rel => exact ⟨k, p / m, _, by omega, by go_num, rfl, a5, a6, hF.set_ (by omega) hS.out.2, hS.out.1, rfl⟩
      case measure => simp [intOf] <;> omega
    · obtain rfl : j = 0 := by omega
      go_wp2
      go_ret
      exact ⟨_, rfl, Ow.made' _ _ _ _ rfl (hF.all.done (Dg_length xs x)) (Nat.le_refl _) (Dg_length xs x) (by unfold maxLen; omega), (Below.refl _ _).alloc (Nat.le_refl _) _⟩

theorem l10Element_any (w : World) (B : Nat) (A : Option Addr) (n c : Nat) (xs : List Int) (A' : Option Addr) (c' : Nat) (ys : List Int) (h : Sl w B A n c xs) (h' : Sl w B A' n c' ys) (hG : OkG xs)
    (hy : ∀ k, k < n → 0 ≤ gi ys k ∧ gi ys k < gi xs k) :
    Calls Try.prog 197 #[.slice A n c, .slice A' n c'] w (Qt w (.int .i64 (elR xs.reverse ys.reverse))) := by
  obtain rfl := h.len
  have h4 := hG.l4
  have hl : ys.length = xs.length := h'.len
  have hL := hide hl
  clear hl
  go_enter Try.func197, Try.ntmps197
  go_wp2
  go_loopw [5, 6] (fun o i w' => ∃ (k : Nat) (q : Int), k ≤ xs.length ∧ i = .int .i64 k ∧ o = .int .i64 q ∧ 0 ≤ q ∧ q < prodL (xs.take k) ∧ q = elR (xs.take k).reverse (ys.take k).reverse ∧ ∃ m, w' = w.drewN m) (fun _ i _ => xs.length - (intOf i).toNat)
  case atStart => exact ⟨0, 0, by omega, rfl, rfl, by omega, by simp [prodL], rfl, 0, rfl⟩
  case round =>
    obtain ⟨k, q, hk, rfl, rfl, q0, q1, hq, mm, rfl⟩ := hrel
    have hQ := hide hq
    clear hq
    by_cases hlt : k < xs.length
    · obtain ⟨b, off, rfl, hb, hc⟩ := h.at_ (by omega)
      obtain ⟨b', off', rfl, hb', hc'⟩ := h'.at_ (by omega)
      have c1 := hc k hlt
      have c2 := hc' k hlt
      clear hc hc'
      have hm2 : 2 ≤ gi xs k := hG.m2 _ (gi_mem hlt)
      obtain ⟨y0, y1⟩ := hy k hlt
      have htk := hG.take_le (k + 1)
      have hp : prodL (xs.take (k + 1)) = prodL (xs.take k) * gi xs k := by rw [take_gi hlt, prodL_snoc]
      rw [hp] at htk
      have g1 : (q + 1) * gi xs k ≤ prodL (xs.take k) * gi xs k := Int.mul_le_mul_of_nonneg_right (by omega) (by omega)
      rw [Int.add_mul] at g1
      have g2 : 0 ≤ q * gi xs k := Int.mul_nonneg q0 (by omega)
      have hst : q * gi xs k + gi ys k = elR (xs.take (k + 1)).reverse (ys.take (k + 1)).reverse := by
        rw [take_rev hlt, take_rev (by rw [hL.out]; exact hlt), elR, hQ.out, Int.mul_comm]; omega
      have hS := hide hst
      have hP := hide hp
      clear hst hp
      have hlt2 : q * gi xs k + gi ys k < prodL (xs.take k) * gi xs k := by omega
      have hz16 : prodL (xs.take k) * gi xs k ≤ 16 := htk.2
      have hLT := hide hlt2
      clear htk hy
      obtain ⟨m, hm⟩ : ∃ m, gi xs k = m := ⟨_, rfl⟩
      obtain ⟨t, ht⟩ : ∃ t, gi ys k = t := ⟨_, rfl⟩
      rw [hm] at c1 g1 g2 hS hLT hm2 y1 hP hz16 hlt2
      rw [ht] at c2 y0 y1 hS hLT hlt2
      have hMT := hide (And.intro hm ht)
      clear hm ht
      obtain ⟨z, hz⟩ : ∃ z, prodL (xs.take k) * m = z := ⟨_, rfl⟩
      rw [hz] at g1 hlt2 hz16 hLT
      have hZ := hide hz
      clear hz
      have t5 : IntKind.i64.wrap (q * m) = q * m := wrap_in (by omega) (by omega)
      have t6 : IntKind.i64.wrap (q * m + t) = q * m + t := wrap_in (by omega) (by omega)
      have i0 : 0 ≤ (k : Int) := by omega
      have i1 : (k : Int) < (xs.length : Int) := by omega
      go_wp2
      refine wp_region_ord [0, 1, 2, 3, 4, 5, 6, 7, 8, 9, 10, 11] 11 (fun w' => w'.cell? ⟨b, off + k, none⟩ = some (.int .i64 m) ∧ w'.cell? ⟨b', off' + k, none⟩ = some (.int .i64 t)) (by kernel_rfl) (by kernel_rfl) (by kernel_rfl) (fun _ _ _ _ _ h => h) ⟨?_, ?_⟩ ?_
      · go_simp
      · go_simp
      repeat (apply ord_take rfl (by rfl) (by rfl); (focus (intro w hSw; (try dsimp only at hSw); go_simp; (try with_reducible rfl))); (try simp only [Act.put, List.setIfInBounds_toArray, List.set_cons_zero, List.set_cons_succ]))
      refine ord_do rfl (by rfl) (by rfl) (fun K hK => ?_)
      go_simp
      refine hK.out _ _ (fun h => absurd h (by omega)) ?_
      (try simp only [Act.put, List.setIfInBounds_toArray, List.set_cons_zero, List.set_cons_succ])
      clear hK K
      refine ord_nil ?_
      go_wp2
      go_roundw
      case rel => exact ⟨k + 1, q * m + t, by omega, by go_num, rfl, by omega, by rw [hP.out, hZ.out]; omega, hS.out, _, rfl⟩
      case measure => simp [intOf] <;> omega
    · obtain rfl : k = xs.length := by omega
      go_wp2
      go_ret
      refine Qt.mk' _ rfl (int_eq ?_)
      have e := hQ.out
      rw [List.take_length, List.take_of_length_le (by rw [hL.out]; omega)] at e
      exact e
end Go.Proofs.Ytneflhachjlmkaa
