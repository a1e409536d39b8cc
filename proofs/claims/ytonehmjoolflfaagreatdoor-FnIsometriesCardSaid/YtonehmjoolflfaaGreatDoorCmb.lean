
/- Roots of unity modulo the prime 55441, and their sums over a subgroup, told plainly. No program is walked here. Cosets of a subgroup, and the condensation of a metric by an isotropic subgroup, told plainly; no program is walked here. Sums of a metric's values and pairings over subgroups, told plainly: orthogonal subgroups and their sizes, Gauss sums of negatives and of condensations. No program is walked here. Gauss sums told plainly: that of a nondegenerate metric times that of its negative, that of a condensation, that of a sum. No program is walked here. The sum of metrics told plainly: its elements are pairs of elements, it is a metric, its Gauss sum is the product. No program is walked here. Isometries, plain: isometric metrics have the same Gauss sums. -/
import Derived.Test.YtonehmjoolflfaaGreatDoorGNa
import Derived.Test.YtonehmjoolflfaaGreatDoorPa
import Derived.Test.YtonehmjoolflfaaGreatDoorRa
import Derived.Maps.OwnSet
import Derived.Test.YtonehmjoolflfaaGreatDoorX2
import Derived.Test.YtonehmjoolflfaaGreatDoorIMa
namespace Go.Proofs.YtonehmjoolflfaaGreatDoor
open Go Go.RowKit Grp
set_option linter.unusedVariables false
set_option linter.unusedSectionVars false
set_option linter.unusedSimpArgs false
/-! ### the prime -/
theorem prime_chk : ((List.range 236).all fun a => (List.range 236).all fun b => (55441 % (a * 236 + b) != 0) || (a * 236 + b == 1) || (a * 236 + b == 55441)) = true := by decide +kernel
theorem prime_div {d : Nat} (h : d ∣ 55441) : d = 1 ∨ d = 55441 := by
  have hle := Nat.le_of_dvd (by omega) h
  have h1 := List.all_eq_true.1 prime_chk (d / 236) (List.mem_range.2 (by omega))
  have h2 := List.all_eq_true.1 h1 (d % 236) (List.mem_range.2 (by omega))
  rw [show d / 236 * 236 + d % 236 = d by omega, Nat.mod_eq_zero_of_dvd h] at h2
  simpa using h2
theorem prime_mul {a b : Int} (h : (55441 : Int) ∣ a * b) : (55441 : Int) ∣ a ∨ (55441 : Int) ∣ b := by
  have h' : 55441 ∣ a.natAbs * b.natAbs := by rw [← Int.natAbs_mul]; exact Int.natAbs_dvd_natAbs.2 h
  rcases prime_div (Nat.gcd_dvd_left 55441 a.natAbs) with h1 | h1
  · right
    exact Int.natAbs_dvd_natAbs.1 (Nat.Coprime.dvd_of_dvd_mul_left h1 h')
  · left
    have := Nat.gcd_dvd_right 55441 a.natAbs
    rw [h1] at this
    exact Int.natAbs_dvd_natAbs.1 this
/-! ### powers -/
theorem pwr_pwr (a i j : Nat) : pwr (pwr a i) j = pwr a (i * j) := by unfold pwr; rw [← Nat.pow_mod, ← Nat.pow_mul]
/-! ### congruences -/
/-- Equal modulo the prime. -/
def Cg (a b : Int) : Prop := (55441 : Int) ∣ a - b
theorem Cg.symm {a b : Int} (h : Cg a b) : Cg b a := by unfold Cg at *; rw [← Int.neg_sub]; exact Int.dvd_neg.2 h
theorem Cg.trans {a b c : Int} (h : Cg a b) (k : Cg b c) : Cg a c := by
  unfold Cg at *
  have := Int.dvd_add h k
  rwa [show a - b + (b - c) = a - c by omega] at this
theorem Cg.add {a b c d : Int} (h : Cg a b) (k : Cg c d) : Cg (a + c) (b + d) := by
  unfold Cg at *
  have := Int.dvd_add h k
  rwa [show a - b + (c - d) = a + c - (b + d) by omega] at this
theorem Cg.mul {a b c d : Int} (h : Cg a b) (k : Cg c d) : Cg (a * c) (b * d) := by
  unfold Cg at *
  have := Int.dvd_add (Int.dvd_mul_of_dvd_left h (c := c)) (Int.dvd_mul_of_dvd_right k (b := b))
  rwa [show (a - b) * c + b * (c - d) = a * c - b * d by grind] at this
theorem Cg.emod {a b : Int} (h : Cg a b) : a % 55441 = b % 55441 := by unfold Cg at h; omega
theorem Cg.small {a b : Int} (h : Cg a b) (a0 : 0 ≤ a) (a1 : a < 55441) (b0 : 0 ≤ b) (b1 : b < 55441) : a = b := by
  have := h.emod
  rwa [Int.emod_eq_of_lt a0 a1, Int.emod_eq_of_lt b0 b1] at this
theorem Cg.cancel {a b c : Int} (hc : ¬ Cg c 0) (h : Cg (c * a) (c * b)) : Cg a b := by
  unfold Cg at *
  rw [← Int.mul_sub] at h
  rcases prime_mul h with h | h
  · exact absurd (by simpa using h) hc
  · exact h
/-! ### sums over lists -/
/-! ### a character over a subgroup -/
section
variable {os H : List Int} {N : Nat} (hG : OkG os) (hN : (N : Int) = prodL os) (hH : Sbg os H) (hd : H.Nodup) (hr : ∀ x ∈ H, 0 ≤ x ∧ x < N)
include hG hN hH hd hr
end
/-- A subgroup on which all values are 1. -/
structure Cs (os : List Int) (D : Int) (vs xs : List Int) : Prop where
  m : IsM os D vs
  rng : ∀ x ∈ xs, 0 ≤ x ∧ x < prodL os
  nodup : xs.Nodup
  zero : 0 ∈ xs
  add : ∀ x ∈ xs, ∀ y ∈ xs, Ar os x y ∈ xs
  iso : ∀ x ∈ xs, Vl vs x = 0
theorem IsLst.nodup {N : Int} {xs : List Int} (h : IsLst N xs) : xs.Nodup := by
  have hlt : ∀ j k, j < k → k < xs.length → gi xs j < gi xs k := by
    intro j k hjk hk
    induction k with
    | zero => omega
    | succ k ih =>
      have h2 := (h (k + 1) hk).2 (by omega)
      simp only [Nat.add_sub_cancel] at h2
      rcases Nat.lt_succ_iff_lt_or_eq.1 hjk with h3 | rfl
      · have := ih h3 (by omega); omega
      · exact h2
  rw [List.nodup_iff_pairwise_ne, List.pairwise_iff_getElem]
  intro i j hi hj hij he
  have := hlt i j hij hj
  rw [gi_ext hi, gi_ext hj] at he
  omega
theorem Cs.of {os vs xs : List Int} {D : Int} (h : codeS os D vs xs = 0) (hi : isoB vs xs = true) : Cs os D vs xs := by
  obtain ⟨hM, hI, hc⟩ := codeS_0 h
  unfold clB at hc
  rw [Bool.and_eq_true, hasB_iff] at hc
  refine ⟨hM, hI.mem, hI.nodup, hc.1, fun x hx y hy => ?_, fun x hx => ?_⟩
  · have h1 := List.all_eq_true.1 hc.2 x hx
    exact hasB_iff.1 (List.all_eq_true.1 h1 y hy)
  · have h1 := List.all_eq_true.1 hi x hx
    simpa using h1
/-- The least of x and its sums with a list. -/
def ldr (os xs : List Int) (x : Int) : Int := xs.foldl (fun a h => min a (Ar os x h)) x
theorem foldMin (f : Int → Int) (xs : List Int) : ∀ a, xs.foldl (fun a h => min a (f h)) a ≤ a ∧ (∀ h ∈ xs, xs.foldl (fun a h => min a (f h)) a ≤ f h) ∧ (xs.foldl (fun a h => min a (f h)) a = a ∨ ∃ h ∈ xs, xs.foldl (fun a h => min a (f h)) a = f h) := by
  induction xs with
  | nil => intro a; exact ⟨Int.le_refl _, by simp, .inl rfl⟩
  | cons x r ih =>
    intro a
    obtain ⟨h1, h2, h3⟩ := ih (min a (f x))
    simp only [List.foldl_cons]
    refine ⟨by omega, fun h hh => ?_, ?_⟩
    · rcases List.mem_cons.1 hh with rfl | hh
      · omega
      · exact h2 h hh
    · rcases h3 with h3 | ⟨h, hh, h3⟩
      · rw [h3]
        by_cases hc : a ≤ f x
        · exact .inl (by omega)
        · exact .inr ⟨x, by simp, by omega⟩
      · exact .inr ⟨h, by simp [hh], h3⟩
theorem ldr_le (os xs : List Int) (x : Int) : ldr os xs x ≤ x := (foldMin _ xs x).1
theorem ldr_le_add {os xs : List Int} {x h : Int} (hh : h ∈ xs) : ldr os xs x ≤ Ar os x h := (foldMin _ xs x).2.1 h hh
section
variable {os vs xs : List Int} {D : Int} (hC : Cs os D vs xs)
include hC
theorem Cs.g : OkG os := hC.m.ok.g
theorem Cs.at0 {x : Int} (h0 : 0 ≤ x) (h1 : x < prodL os) : Ar os x 0 = x := Ar_zero hC.g h0 h1
theorem Cs.len (h : xs.length ≠ 0 → True) : (xs.length : Int) ≤ prodL os := by
  have hp := hC.g.ge
  have := hC.nodup.length_le_of_subset (l₂ := (List.range (prodL os).toNat).map fun (x : Nat) => (x : Int)) (fun y hy => by
    have := hC.rng y hy
    exact List.mem_map.2 ⟨y.toNat, List.mem_range.2 (by omega), by omega⟩)
  simp at this
  omega
theorem Cs.ldr_mem {x : Int} (h0 : 0 ≤ x) (h1 : x < prodL os) : ∃ h ∈ xs, ldr os xs x = Ar os x h := by
  rcases (foldMin (fun h => Ar os x h) xs x).2.2 with h | h
  · exact ⟨0, hC.zero, by rw [hC.at0 h0 h1]; exact h⟩
  · exact h
theorem Cs.cancel {h a b : Int} (hh : h ∈ xs) (ha : a ∈ xs) (hb : b ∈ xs) (he : Ar os h a = Ar os h b) : a = b := by
  have h1 : Ar os (Ng os h) (Ar os h a) = Ar os (Ng os h) (Ar os h b) := by rw [he]
  rw [← Ar_assoc hC.g, ← Ar_assoc hC.g, Ar_comm os (Ng os h) h, Ar_neg hC.g, Ar_comm os 0 a, Ar_comm os 0 b, hC.at0 (hC.rng a ha).1 (hC.rng a ha).2, hC.at0 (hC.rng b hb).1 (hC.rng b hb).2] at h1
  exact h1
theorem Cs.inv {h : Int} (hh : h ∈ xs) : ∃ g ∈ xs, Ar os h g = 0 := by
  refine Classical.byContradiction fun hn => ?_
  have hnd : (0 :: xs.map (Ar os h)).Nodup := by
    rw [List.nodup_cons]
    refine ⟨fun hm => ?_, ?_⟩
    · obtain ⟨g, hg, he⟩ := List.mem_map.1 hm
      exact hn ⟨g, hg, he⟩
    · rw [List.nodup_iff_pairwise_ne, List.pairwise_map]
      exact (List.nodup_iff_pairwise_ne.1 hC.nodup).imp_of_mem fun {a b} ha hb hab he => hab (hC.cancel hh ha hb he)
  have := hnd.length_le_of_subset (l₂ := xs) (fun y hy => by
    rcases List.mem_cons.1 hy with rfl | hy
    · exact hC.zero
    · obtain ⟨g, hg, rfl⟩ := List.mem_map.1 hy
      exact hC.add h hh g hg)
  simp at this
  omega
theorem Cs.coset {x h : Int} (h0 : 0 ≤ x) (h1 : x < prodL os) (hh : h ∈ xs) : ldr os xs (Ar os x h) = ldr os xs x := by
  have hr := Ar_rng hC.g x h
  obtain ⟨k, hk, ek⟩ := hC.ldr_mem h0 h1
  obtain ⟨j, hj, ej⟩ := hC.ldr_mem hr.1 hr.2
  obtain ⟨g, hg, eg⟩ := hC.inv hh
  have a1 : ldr os xs x ≤ ldr os xs (Ar os x h) := by
    rw [ej, Ar_assoc hC.g]
    exact ldr_le_add (hC.add h hh j hj)
  have a2 : ldr os xs (Ar os x h) ≤ ldr os xs x := by
    have e : Ar os x k = Ar os (Ar os x h) (Ar os g k) := by
      rw [Ar_assoc hC.g, ← Ar_assoc hC.g h g k, eg, Ar_comm os 0 k, hC.at0 (hC.rng k hk).1 (hC.rng k hk).2]
    rw [ek, e]
    exact ldr_le_add (hC.add g hg k hk)
  omega
/-- y is in the coset of x just if both have one leader. -/
theorem Cs.same {x y : Int} (x0 : 0 ≤ x) (x1 : x < prodL os) (y0 : 0 ≤ y) (y1 : y < prodL os) (he : ldr os xs y = ldr os xs x) : ∃ h ∈ xs, y = Ar os x h := by
  obtain ⟨k, hk, ek⟩ := hC.ldr_mem x0 x1
  obtain ⟨j, hj, ej⟩ := hC.ldr_mem y0 y1
  obtain ⟨g, hg, eg⟩ := hC.inv hj
  refine ⟨Ar os k g, hC.add k hk g hg, ?_⟩
  rw [← Ar_assoc hC.g, ← ek, ← he, ej, Ar_assoc hC.g, eg, hC.at0 y0 y1]
end
/-! ### the orthogonal list -/
theorem mem_ortL {os vs xs : List Int} {D : Int} {k : Nat} {x : Int} : x ∈ ortL os D vs xs k ↔ 0 ≤ x ∧ x < k ∧ ∀ y ∈ xs, Pr os D vs x y = 0 := by
  unfold ortL ortB
  simp only [List.mem_map, List.mem_filter, List.mem_range, List.all_eq_true, beq_iff_eq]
  constructor
  · rintro ⟨j, ⟨h1, h2⟩, rfl⟩; exact ⟨by omega, by omega, h2⟩
  · rintro ⟨h0, h1, h2⟩
    exact ⟨x.toNat, ⟨by omega, by rwa [Int.toNat_of_nonneg h0]⟩, by omega⟩
theorem ortL_lt (os vs xs : List Int) (D : Int) (k : Nat) : (ortL os D vs xs k).Pairwise (· < ·) := by
  unfold ortL
  refine List.Pairwise.map _ (R := (· < ·)) (fun a b h => by simpa using h) ?_
  exact List.Pairwise.filter _ List.pairwise_lt_range
/-- What a map holds at the numbers below N: a number f y at each y of P. -/
def Cov (M : DataW Unit) (N : Int) (P : Int → Prop) (f : Int → Int) : Prop := ∀ y, 0 ≤ y → y < N → (Maps.has M (.int .i64 y) = true ↔ P y) ∧ (P y → M.atKey (.int .i64 y) (.lit (.int .i64 0)) = .lit (.int .i64 (f y)))
theorem Cov.none {N : Int} {f : Int → Int} : Cov (.map []) N (fun _ => False) f := fun y _ _ => ⟨by simp [Maps.has], fun h => h.elim⟩
theorem Cov.put {M : DataW Unit} {N : Int} {P : Int → Prop} {f : Int → Int} (h : Cov M N P f) (hM : Maps.IsMap M) {z v : Int} (hv : f z = v) : Cov (M.put (.int .i64 z) (.lit (.int .i64 v))) N (fun y => P y ∨ y = z) f := by
  have hk : WideAt.IsKeyLit (.int .i64 z) := by simp [WideAt.IsKeyLit]
  intro y h0 h1
  by_cases e : y = z
  · subst e
    exact ⟨⟨fun _ => .inr rfl, fun _ => Maps.has_put_same hM hk _⟩, fun _ => by rw [Maps.atKey_put_same hM hk, hv]⟩
  · have hne : (Lit.int .i64 y) ≠ (Lit.int .i64 z) := fun h => e (by injection h)
    rw [Maps.has_put_other hne, Maps.atKey_put_other hne]
    refine ⟨(h y h0 h1).1.trans ⟨.inl, fun hp => hp.elim id fun h => absurd h e⟩, fun hp => (h y h0 h1).2 (hp.elim id fun h => absurd h e)⟩
section
variable {os vs xs O : List Int} {D : Int} (hC : Cs os D vs xs) (hO : O = ortL os D vs xs vs.length)
include hC hO
theorem Cs.memO {x : Int} : x ∈ O ↔ 0 ≤ x ∧ x < prodL os ∧ ∀ y ∈ xs, Pr os D vs x y = 0 := by
  rw [hO, mem_ortL, hC.m.ok.len]
theorem Cs.bilI {x y z : Int} (x0 : 0 ≤ x) (x1 : x < prodL os) (y0 : 0 ≤ y) (y1 : y < prodL os) (z0 : 0 ≤ z) (z1 : z < prodL os) : Pr os D vs (Ar os x y) z = (Pr os D vs x z + Pr os D vs y z) % D := by
  have _h := hO
  have := hC.m.bil x.toNat y.toNat z.toNat (by omega) (by omega) (by omega)
  rwa [Int.toNat_of_nonneg x0, Int.toNat_of_nonneg y0, Int.toNat_of_nonneg z0] at this
theorem Cs.addO {x y : Int} (hx : x ∈ O) (hy : y ∈ O) : Ar os x y ∈ O := by
  rw [hC.memO hO] at hx hy ⊢
  have hr := Ar_rng hC.g x y
  refine ⟨hr.1, hr.2, fun z hz => ?_⟩
  rw [hC.bilI hO hx.1 hx.2.1 hy.1 hy.2.1 (hC.rng z hz).1 (hC.rng z hz).2, hx.2.2 z hz, hy.2.2 z hz]
  simp
theorem Cs.subO {h : Int} (hh : h ∈ xs) : h ∈ O := by
  rw [hC.memO hO]
  refine ⟨(hC.rng h hh).1, (hC.rng h hh).2, fun z hz => ?_⟩
  unfold Pr
  rw [hC.iso _ (hC.add h hh z hz), hC.iso h hh, hC.iso z hz]
  simp
theorem Cs.ldrO {x : Int} (hx : x ∈ O) : ldr os xs x ∈ O := by
  have h1 := (hC.memO hO).1 hx
  obtain ⟨k, hk, ek⟩ := hC.ldr_mem h1.1 h1.2.1
  rw [ek]; exact hC.addO hO hx (hC.subO hO hk)
/-- A leader lies among the first elements just if it is less than the next one. -/
theorem Cs.taken {k : Nat} (hk : k < O.length) {y : Int} (hy : y ∈ O) : y ∈ O.take k ↔ y < gi O k := by
  have _h := hC
  have hs : O.Pairwise (· < ·) := by rw [hO]; exact ortL_lt _ _ _ _ _
  constructor
  · intro h
    obtain ⟨j, hj, rfl⟩ := List.mem_iff_getElem.1 h
    simp at hj
    rw [List.getElem_take, ← gi_ext hk]
    exact List.pairwise_iff_getElem.1 hs j k (by omega) hk (by omega)
  · intro h
    obtain ⟨j, hj, rfl⟩ := List.mem_iff_getElem.1 hy
    by_cases hjk : j < k
    · exact List.mem_iff_getElem.2 ⟨j, by simp; omega, by rw [List.getElem_take]⟩
    · exfalso
      rw [← gi_ext hk] at h
      rcases Nat.lt_or_ge k j with hl | hl
      · have := List.pairwise_iff_getElem.1 hs k j hk hj hl; omega
      · obtain rfl : j = k := by omega
        omega
/-- What the map knows behind k elements. -/
def CovK (os xs O : List Int) (k : Nat) (y : Int) : Prop := y ∈ O ∧ ldr os xs y ∈ O.take k
omit hC hO in
theorem CovK.zero (y : Int) : ¬ CovK os xs O 0 y := fun h => by simpa using h.2
/-- The element k has been met just if it is no leader. -/
theorem Cs.met {k : Nat} (hk : k < O.length) : CovK os xs O k (gi O k) ↔ ldr os xs (gi O k) ≠ gi O k := by
  have hm := gi_mem hk
  unfold CovK
  rw [hC.taken hO hk (hC.ldrO hO hm)]
  have := ldr_le os xs (gi O k)
  constructor
  · rintro ⟨_, h⟩; omega
  · intro h; exact ⟨hm, by omega⟩
end
theorem ordB_dvd {D : Int} (h : ordB D = true) : 1 ≤ D.toNat ∧ D.toNat ∣ 55440 ∧ ((D.toNat : Nat) : Int) = D := by
  unfold ordB at h
  obtain ⟨h1, h2⟩ := of_decide_eq_true h
  obtain ⟨d, rfl⟩ := Int.eq_ofNat_of_zero_le (show 0 ≤ D by omega)
  refine ⟨by omega, Nat.dvd_of_mod_eq_zero ?_, by simp⟩
  have : ((55440 % d : Nat) : Int) = 0 := by rw [Int.natCast_emod]; exact h2
  exact Int.ofNat.inj this
theorem mod_add_mod {a b D : Int} : (a % D + b % D) % D = (a + b) % D := (Int.add_emod a b D).symm
section
variable {os vs : List Int} {D : Int} (hM : IsM os D vs)
include hM
end
/-! ### a subgroup of a metric -/
/-- A subgroup told in order. -/
structure SbM (os vs H : List Int) : Prop where
  sb : Sbg os H
  lt : H.Pairwise (· < ·)
  rng : ∀ x ∈ H, 0 ≤ x ∧ x < vs.length
section
variable {os vs H : List Int} {D : Int} (hM : IsM os D vs) (hH : SbM os vs H)
include hM
include hH
end
section
variable {os vs : List Int} {D : Int} (hM : IsM os D vs)
include hM
end
/-! ### condensations -/
section
variable {os vs xs : List Int} {D : Int} (hC : Cs os D vs xs)
include hC
end

theorem rp_lift {D D1 e1 : Nat} (h : D1 * e1 = D) (hd : D ∣ 55440) (h1 : 1 ≤ D1) (he : 1 ≤ e1) (t : Int) : rp D (t * e1) = rp D1 t := by
  have hr : rtu D1 = pwr (rtu D) e1 := by
    unfold rtu
    rw [pwr_pwr]
    congr 1
    obtain ⟨c, hc⟩ := hd
    have hD : 0 < D := by rw [← h]; exact Nat.mul_pos h1 he
    rw [hc, Nat.mul_div_cancel_left _ hD, ← h, Nat.mul_assoc, Nat.mul_div_cancel_left _ h1, Nat.mul_comm]
  unfold rp
  rw [hr, pwr_pwr]
  congr 1
  have hm : (t * (e1 : Int)) % (D : Int) = (t % (D1 : Int)) * e1 := by
    rw [← h, Int.natCast_mul, Int.mul_comm t, Int.mul_comm (D1 : Int), Int.mul_emod_mul_of_pos _ _ (by omega), Int.mul_comm]
  have h0 := Int.emod_nonneg t (show (D1 : Int) ≠ 0 by omega)
  rw [hm]
  obtain ⟨n, hn⟩ := Int.eq_ofNat_of_zero_le h0
  rw [hn, ← Int.natCast_mul, Int.toNat_natCast, Int.toNat_natCast, Nat.mul_comm]
theorem rp_alike {D E : Nat} (hD : D ∣ 55440) (hE : E ∣ 55440) (h1 : 1 ≤ D) (h2 : 1 ≤ E) {a b : Int} (h : a * E = b * D) (k : Int) : rp D (a * k) = rp E (b * k) := by
  obtain ⟨c, hc⟩ := hD
  obtain ⟨d, hd⟩ := hE
  have c1 : 1 ≤ c := Nat.pos_of_ne_zero fun e => by rw [e] at hc; simp at hc
  have d1 : 1 ≤ d := Nat.pos_of_ne_zero fun e => by rw [e] at hd; simp at hd
  rw [← rp_lift (D := 55440) (D1 := D) (e1 := c) hc.symm (Nat.dvd_refl _) h1 c1, ← rp_lift (D := 55440) (D1 := E) (e1 := d) hd.symm (Nat.dvd_refl _) h2 d1]
  have hp := al_prog (D := D) (E := E) (c := c) (d := d) (a := a) (b := b) (q := 55440) (by omega) (by rw [← Int.natCast_mul, ← hc]; rfl) (by rw [← Int.natCast_mul, ← hd]; rfl)
  have e : a * c = b * d := by
    have : (a * (c : Int) == b * (d : Int)) = true := by rw [hp, beq_iff_eq]; exact h
    exact beq_iff_eq.1 this
  congr 1
  rw [Int.mul_right_comm, e, Int.mul_right_comm]
theorem range_map (vs : List Int) : vs = (List.range vs.length).map fun z => gi vs z := by
  refine List.ext_getElem (by simp) fun i h1 h2 => ?_
  rw [List.getElem_map, List.getElem_range]
  unfold gi
  rw [List.getD_eq_getElem?_getD, List.getElem?_eq_getElem h1]; rfl
/-- Isometric metrics have the same Gauss sums. -/
theorem iso_gauss {T : Two} (hM : IsM T.os T.D T.vs) (hN : IsM T.ps T.E T.us) (hl : T.vs.length = T.us.length) {x : List Int} (h : IsIso T x) (k : Int) : gsum T.D.toNat k T.vs = gsum T.E.toNat k T.us := by
  obtain ⟨a1, a2, a3⟩ := ordB_dvd hM.ord
  obtain ⟨b1, b2, b3⟩ := ordB_dvd hN.ord
  have lu := hN.ok.len
  have hr : ∀ z : Nat, z < T.N → 0 ≤ T.im x z ∧ T.im x z < T.N := fun z _ => by
    have := imF_rng (os := T.os) hN.ok.g x z
    unfold Two.im Two.N; omega
  have hp : ((List.range T.N).map fun z => (T.im x z).toNat).Perm (List.range T.N) := by
    refine (List.perm_ext_iff_of_nodup ?_ List.nodup_range).2 fun v => ?_
    · rw [List.nodup_iff_pairwise_ne, List.pairwise_map]
      exact List.nodup_range.imp_of_mem fun {a b} ha hb hab he => hab (h.inj a b (List.mem_range.1 ha) (List.mem_range.1 hb) (by
        have := hr a (List.mem_range.1 ha); have := hr b (List.mem_range.1 hb); omega))
    · rw [List.mem_map, List.mem_range]
      constructor
      · rintro ⟨z, hz, rfl⟩
        have := hr z (List.mem_range.1 hz); omega
      · intro hv
        obtain ⟨z, hz, e⟩ := onto_of_inj (N := T.N) (F := fun z => T.im x z.toNat) (fun z hz => by have := hr z hz; simpa using this) (fun z z' a b e => h.inj z z' a b (by simpa using e)) v (by omega) (by omega)
        refine ⟨z, List.mem_range.2 hz, ?_⟩
        have e : T.im x z = v := by simpa using e
        rw [e]; rfl
  have e1 : T.vs = (List.range T.N).map fun z => gi T.vs z := by have := range_map T.vs; rw [hl] at this; exact this
  have e2 := range_map T.us
  unfold gsum
  rw [e1]
  conv => rhs; rw [e2]
  rw [List.map_map, List.map_map]
  have e3 : (List.range T.us.length).Perm ((List.range T.N).map fun z => (T.im x z).toNat) := hp.symm
  rw [(e3.map _).sum_nat]
  rw [List.map_map]
  congr 1
  refine List.map_congr_left fun z hz => ?_
  have ha := h.al z (List.mem_range.1 hz)
  unfold Two.al alB at ha
  rw [beq_iff_eq, Int.toNat_natCast, ← a3, ← b3] at ha
  exact rp_alike a2 b2 a1 b1 ha k
end Go.Proofs.YtonehmjoolflfaaGreatDoor
