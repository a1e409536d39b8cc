
/- Roots of unity modulo the prime 55441, and their sums over a subgroup, told plainly. No program is walked here. Cosets of a subgroup, and the condensation of a metric by an isotropic subgroup, told plainly; no program is walked here. Sums of a metric's values and pairings over subgroups, told plainly: orthogonal subgroups and their sizes, Gauss sums of negatives and of condensations. No program is walked here. Gauss sums told plainly: that of a nondegenerate metric times that of its negative, that of a condensation, that of a sum. No program is walked here. -/
import Derived.Test.YtbpihnpakolooaaGreatDoorMK
import Derived.Test.YtbpihnpakolooaaGreatDoorP1a
import Derived.Test.YtbpihnpakolooaaGreatDoorRUa
import Derived.Test.YtbpihnpakolooaaGreatDoorGN
import Derived.Maps.OwnSet
namespace Go.Proofs.YtbpihnpakolooaaGreatDoor
open Go Go.RowKit Grp
set_option linter.unusedVariables false
set_option linter.unusedSectionVars false
theorem prime_chk : ((List.range 236).all fun a => (List.range 236).all fun b => (55441 % (a * 236 + b) != 0) || (a * 236 + b == 1) || (a * 236 + b == 55441)) = true := by decide +kernel
theorem prime_div {d : Nat} (h : d ∣ 55441) : d = 1 ∨ d = 55441 := by
 have hle := Nat.le_of_dvd (by omega) h
 have h1 := List.all_eq_true.1 prime_chk (d / 236) (List.mem_range.2 (by omega))
 have h2 := List.all_eq_true.1 h1 (d % 236) (List.mem_range.2 (by omega))
 rw [show d / 236 * 236 + d % 236 = d by omega, Nat.mod_eq_zero_of_dvd h] at h2
 simpa using h2
theorem prime_mul {a b : Int} (h : (55441 : Int) ∣ a * b) : (55441 : Int) ∣ a ∨ (55441 : Int) ∣ b := by
 have h' : 55441 ∣ a.natAbs * b.natAbs := by rw [← Int.natAbs_mul]; exact Int.natAbs_dvd_natAbs.2 h
 rcases prime_div (Nat.gcd_dvd_left 55441 a.natAbs) with h1 | h1
 ·right
  exact Int.natAbs_dvd_natAbs.1 (Nat.Coprime.dvd_of_dvd_mul_left h1 h')
 ·left
  have := Nat.gcd_dvd_right 55441 a.natAbs
  rw [h1] at this
  exact Int.natAbs_dvd_natAbs.1 this
theorem pwr_add (a i j : Nat) : pwr a (i + j) = pwr a i * pwr a j % 55441 := by unfold pwr; rw [Nat.pow_add, Nat.mul_mod]
theorem pwr_pwr (a i j : Nat) : pwr (pwr a i) j = pwr a (i * j) := by unfold pwr; rw [← Nat.pow_mod, ← Nat.pow_mul]
theorem pwr_one (j : Nat) : pwr 1 j = 1 := by unfold pwr; rw [Nat.one_pow]
theorem pwr_zero (a : Nat) : pwr a 0 = 1 := by simp [pwr]
theorem pwr_mod {x D : Nat} (h : pwr x D = 1) (i : Nat) : pwr x i = pwr x (i % D) := by
 have e : pwr x (i % D + D * (i / D)) = pwr x (i % D) := by
  rw [pwr_add, ← pwr_pwr, h, pwr_one, Nat.mul_one]
  exact Nat.mod_eq_of_lt (pwr_lt _ _)
 rwa [Nat.mod_add_div] at e
theorem fermat : pwr 38 55440 = 1 := by decide +kernel
theorem rtu_pow {D : Nat} (hd : D ∣ 55440) : pwr (rtu D) D = 1 := by unfold rtu; rw [pwr_pwr, Nat.div_mul_cancel hd]; exact fermat
theorem pwr_gcd {a : Nat} (i j : Nat) : pwr a i = 1 → pwr a j = 1 → pwr a (Nat.gcd i j) = 1 := by
 induction i, j using Nat.gcd.induction with
 | H0 n => intro _ h; rwa [Nat.gcd_zero_left]
 | H1 m n _ ih => intro h1 h2; rw [Nat.gcd_rec]; exact ih (by rw [← pwr_mod h1]; exact h2) h1
theorem order_chk : ((List.range 236).all fun a => (List.range 236).all fun b => (55440 % (a * 236 + b) != 0) || (a * 236 + b == 55440) || pr5.any fun p => 55440 / p % (a * 236 + b) == 0) = true := by decide +kernel
theorem pwr38_one {m : Nat} (h : pwr 38 m = 1) : 55440 ∣ m := by
 have hg := pwr_gcd _ _ fermat h
 have hd := Nat.gcd_dvd_left 55440 m
 obtain ⟨g, eg⟩ : ∃ g, Nat.gcd 55440 m = g := ⟨_, rfl⟩
 rw [eg] at hg hd
 have hle := Nat.le_of_dvd (by omega) hd
 have h1 := List.all_eq_true.1 order_chk (g / 236) (List.mem_range.2 (by omega))
 have h2 := List.all_eq_true.1 h1 (g % 236) (List.mem_range.2 (by omega))
 rw [show g / 236 * 236 + g % 236 = g by omega, Nat.mod_eq_zero_of_dvd hd] at h2
 simp only [bne_self_eq_false, Bool.false_or, Bool.or_eq_true, beq_iff_eq, List.any_eq_true] at h2
 rcases h2 with h2 | ⟨p, hp, h2⟩
 ·have := Nat.gcd_dvd_right 55440 m
  rwa [eg, h2] at this
 ·exfalso
  obtain ⟨q, hq⟩ := Nat.dvd_of_mod_eq_zero h2
  have h3 : pwr 38 (55440 / p) = 1 := by rw [hq, ← pwr_pwr, hg, pwr_one]
  have h4 : noPrim 38 = true := List.any_eq_true.2 ⟨p, hp, by simpa using h3⟩
  rw [prim38] at h4
  cases h4
theorem rp_pw {D : Nat} (hd : D ∣ 55440) (k : Nat) : rp D (k : Int) = pwr (rtu D) k := by
 unfold rp
 rw [pwr_mod (rtu_pow hd) k]
 congr 1
theorem rp_cg {D : Nat} {a b : Int} (h : a % D = b % D) : rp D a = rp D b := by unfold rp; rw [h]
theorem rp_add {D : Nat} (h1 : 1 ≤ D) (hd : D ∣ 55440) (a b : Int) : rp D (a + b) = rp D a * rp D b % 55441 := by
 have ra := Int.emod_nonneg a (show (D : Int) ≠ 0 by omega)
 have rb := Int.emod_nonneg b (show (D : Int) ≠ 0 by omega)
 obtain ⟨i, hi⟩ := Int.eq_ofNat_of_zero_le ra
 obtain ⟨j, hj⟩ := Int.eq_ofNat_of_zero_le rb
 have e1 : rp D a = rp D (i : Int) := rp_cg (by rw [← hi, Int.emod_emod])
 have e2 : rp D b = rp D (j : Int) := rp_cg (by rw [← hj, Int.emod_emod])
 have e3 : rp D (a + b) = rp D ((i + j : Nat) : Int) := rp_cg (by rw [Int.natCast_add, ← hi, ← hj, ← Int.add_emod])
 rw [e1, e2, e3, rp_pw hd, rp_pw hd, rp_pw hd, pwr_add]
theorem rp_zero {D : Nat} (hd : D ∣ 55440) : rp D 0 = 1 := by
 have := rp_pw hd 0
 rw [pwr_zero] at this
 exact this
theorem rp_one {D : Nat} (h1 : 1 ≤ D) (hd : D ∣ 55440) {k : Int} (h : rp D k = 1) : k % D = 0 := by
 have ra := Int.emod_nonneg k (show (D : Int) ≠ 0 by omega)
 have rb := Int.emod_lt_of_pos k (show 0 < (D : Int) by omega)
 obtain ⟨i, hi⟩ := Int.eq_ofNat_of_zero_le ra
 have e1 : rp D k = rp D (i : Int) := rp_cg (by rw [← hi, Int.emod_emod])
 rw [e1, rp_pw hd] at h
 unfold rtu at h
 rw [pwr_pwr] at h
 have h2 := pwr38_one h
 obtain ⟨q, hq⟩ := hd
 rw [hq, Nat.mul_div_cancel_left q (by omega)] at h2
 have hq0 : 0 < q := Nat.pos_of_ne_zero (fun h => by rw [h] at hq; omega)
 have h3 : D ∣ i := by
  rw [Nat.mul_comm D q] at h2
  exact Nat.dvd_of_mul_dvd_mul_left hq0 h2
 rw [hi] at rb ⊢
 have : i = 0 := Nat.eq_zero_of_dvd_of_lt h3 (by omega)
 rw [this]; rfl
def Cg (a b : Int) : Prop := (55441 : Int) ∣ a - b
theorem Cg.rfl' (a : Int) : Cg a a := by unfold Cg; rw [Int.sub_self]; exact Int.dvd_zero _
theorem Cg.of_eq {a b : Int} (h : a = b) : Cg a b := h ▸ Cg.rfl' a
theorem Cg.symm {a b : Int} (h : Cg a b) : Cg b a := by unfold Cg at *; rw [← Int.neg_sub]; exact Int.dvd_neg.2 h
theorem Cg.trans {a b c : Int} (h : Cg a b) (k : Cg b c) : Cg a c := by
 unfold Cg at *
 have := Int.dvd_add h k
 rwa [show a - b + (b - c) = a - c by omega] at this
theorem Cg.add {a b c d : Int} (h : Cg a b) (k : Cg c d) : Cg (a + c) (b + d) := by
 unfold Cg at *
 have := Int.dvd_add h k
 rwa [show a - b + (c - d) = a + c - (b + d) by omega] at this
theorem Cg.mul {a b c d : Int} (h : Cg a b) (k : Cg c d) : Cg (a * c) (b * d) := by
 unfold Cg at *
 have := Int.dvd_add (Int.dvd_mul_of_dvd_left h (c := c)) (Int.dvd_mul_of_dvd_right k (b := b))
 rwa [show (a - b) * c + b * (c - d) = a * c - b * d by grind] at this
theorem Cg.mod (a : Int) : Cg (a % 55441) a := by
 unfold Cg
 rw [show a % 55441 - a = 55441 * (-(a / 55441)) by have := Int.emod_add_mul_ediv a 55441; omega]
 exact Int.dvd_mul_right _ _
theorem Cg.natMod (a : Nat) : Cg ((a % 55441 : Nat) : Int) (a : Int) := by
 rw [Int.natCast_emod]; exact Cg.mod _
theorem Cg.emod {a b : Int} (h : Cg a b) : a % 55441 = b % 55441 := by unfold Cg at h; omega
theorem Cg.small {a b : Int} (h : Cg a b) (a0 : 0 ≤ a) (a1 : a < 55441) (b0 : 0 ≤ b) (b1 : b < 55441) : a = b := by
 have := h.emod
 rwa [Int.emod_eq_of_lt a0 a1, Int.emod_eq_of_lt b0 b1] at this
theorem Cg.cancel {a b c : Int} (hc : ¬ Cg c 0) (h : Cg (c * a) (c * b)) : Cg a b := by
 unfold Cg at *
 rw [← Int.mul_sub] at h
 rcases prime_mul h with h | h
 ·exact absurd (by simpa using h) hc
 ·exact h
theorem rp_addC {D : Nat} (h1 : 1 ≤ D) (hd : D ∣ 55440) (a b : Int) : Cg (rp D (a + b)) ((rp D a : Int) * (rp D b : Int)) := by
 rw [rp_add h1 hd]
 have := Cg.natMod (rp D a * rp D b)
 rwa [Int.natCast_mul] at this
def smL (f : Int → Int) : List Int → Int
 | [] => 0
 | x :: r => f x + smL f r
theorem smL_perm {f : Int → Int} {a b : List Int} (h : a.Perm b) : smL f a = smL f b := by
 induction h with
 | nil => rfl
 | cons _ _ ih => simp only [smL, ih]
 | swap x y l => simp only [smL]; omega
 | trans _ _ h1 h2 => exact h1.trans h2
theorem smL_map (f g : Int → Int) (a : List Int) : smL f (a.map g) = smL (fun x => f (g x)) a := by
 induction a with
 | nil => rfl
 | cons x r ih => simp only [List.map_cons, smL, ih]
theorem smL_cg {f g : Int → Int} {a : List Int} (h : ∀ x ∈ a, Cg (f x) (g x)) : Cg (smL f a) (smL g a) := by
 induction a with
 | nil => exact Cg.rfl' _
 | cons x r ih => exact (h x (by simp)).add (ih fun y hy => h y (by simp [hy]))
theorem smL_mul (c : Int) (f : Int → Int) (a : List Int) : smL (fun x => c * f x) a = c * smL f a := by
 induction a with
 | nil => simp [smL]
 | cons x r ih => simp only [smL, ih, Int.mul_add]
theorem smL_add (f g : Int → Int) (a : List Int) : smL (fun x => f x + g x) a = smL f a + smL g a := by
 induction a with
 | nil => rfl
 | cons x r ih => simp only [smL, ih]; omega
theorem smL_zero (a : List Int) : smL (fun _ => 0) a = 0 := by
 induction a with
 | nil => rfl
 | cons x r ih => simp only [smL, ih]; rfl
theorem smL_const (c : Int) (a : List Int) : smL (fun _ => c) a = (a.length : Int) * c := by
 induction a with
 | nil => simp [smL]
 | cons x r ih => simp only [smL, ih, List.length_cons, Int.natCast_add]; grind
theorem smL_swap (f : Int → Int → Int) (a b : List Int) : smL (fun x => smL (fun y => f x y) b) a = smL (fun y => smL (fun x => f x y) a) b := by
 induction a with
 | nil => simp only [smL]; exact (smL_zero b).symm
 | cons x r ih => simp only [smL, ih, smL_add]
theorem smL_ext {f g : Int → Int} {a : List Int} (h : ∀ x ∈ a, f x = g x) : smL f a = smL g a := by
 induction a with
 | nil => rfl
 | cons x r ih => simp only [smL]; rw [h x (by simp), ih fun y hy => h y (by simp [hy])]
theorem smL_if (p : Int → Bool) (f : Int → Int) (a : List Int) : smL (fun x => if p x = true then f x else 0) a = smL f (a.filter p) := by
 induction a with
 | nil => rfl
 | cons x r ih =>
  simp only [smL, ih, List.filter_cons]
  split <;> simp [smL]
def els (N : Nat) : List Int := (List.range N).map fun (x : Nat) => (x : Int)
theorem mem_els {N : Nat} {x : Int} : x ∈ els N ↔ 0 ≤ x ∧ x < N := by
 unfold els
 simp only [List.mem_map, List.mem_range]
 exact ⟨fun ⟨j, h, e⟩ => by omega, fun h => ⟨x.toNat, by omega, by omega⟩⟩
theorem els_nodup (N : Nat) : (els N).Nodup := by
 unfold els
 rw [List.nodup_iff_pairwise_ne, List.pairwise_map]
 exact (List.nodup_iff_pairwise_ne.1 List.nodup_range).imp fun h => by omega
theorem els_length (N : Nat) : (els N).length = N := by simp [els]
section
variable {os H : List Int} {N : Nat} (hG : OkG os) (hN : (N : Int) = prodL os) (hH : Sbg os H) (hd : H.Nodup) (hr : ∀ x ∈ H, 0 ≤ x ∧ x < N)
include hG hN hH hd hr
theorem shift_perm {h : Int} (hh : h ∈ H) : (H.map (Ar os h)).Perm H := by
 have hcn : (H.map (Ar os h)).Nodup := by
  rw [List.nodup_iff_pairwise_ne, List.pairwise_map]
  exact (List.nodup_iff_pairwise_ne.1 hd).imp_of_mem fun {a b} ha hb hab he => hab (sb_cancel hG hN hH hd hr ha hb he)
 refine (List.perm_ext_iff_of_nodup hcn hd).2 fun v => ⟨fun hv => ?_, fun hv => ?_⟩
 ·obtain ⟨a, ha, rfl⟩ := List.mem_map.1 hv
  exact hH.add h hh a ha
 ·obtain ⟨g, hg, hz⟩ := sb_inv hG hN hH hd hr hh
  refine List.mem_map.2 ⟨Ar os g v, hH.add g hg v hv, ?_⟩
  have rv := hr v hv
  rw [← Ar_assoc hG, hz, Ar_comm os 0 v, Ar_zero hG rv.1 (by omega)]
theorem char_zero {χ : Int → Int} (hm : ∀ a ∈ H, ∀ b ∈ H, Cg (χ (Ar os a b)) (χ a * χ b)) {h : Int} (hh : h ∈ H) (hne : ¬ Cg (χ h) 1) : Cg (smL χ H) 0 := by
 have e1 : smL χ H = smL (fun x => χ (Ar os h x)) H := by rw [← smL_map χ (Ar os h) H, smL_perm (shift_perm hG hN hH hd hr hh)]
 have h1 : Cg (smL χ H) (χ h * smL χ H) := (Cg.of_eq e1).trans ((smL_cg fun x hx => hm h hh x hx).trans (Cg.of_eq (smL_mul (χ h) χ H)))
 have h2 : (55441 : Int) ∣ (χ h - 1) * smL χ H := by
  have := h1.symm
  unfold Cg at this
  rwa [show χ h * smL χ H - smL χ H = (χ h - 1) * smL χ H by grind] at this
 rcases prime_mul h2 with h3 | h3
 ·exact absurd h3 hne
 ·unfold Cg; simpa using h3
end
theorem els_sbg {os : List Int} {N : Nat} (hG : OkG os) (hN : (N : Int) = prodL os) : Sbg os (els N) := by
 have hge := hG.ge
 exact ⟨mem_els.2 ⟨by omega, by omega⟩, fun x _ y _ => by have := Ar_rng hG x y; exact mem_els.2 ⟨this.1, by omega⟩⟩
structure Cs (os : List Int) (D : Int) (vs xs : List Int) : Prop where
 m : IsM os D vs
 rng : ∀ x ∈ xs, 0 ≤ x ∧ x < prodL os
 nodup : xs.Nodup
 zero : 0 ∈ xs
 add : ∀ x ∈ xs, ∀ y ∈ xs, Ar os x y ∈ xs
 iso : ∀ x ∈ xs, Vl vs x = 0
theorem IsLst.nodup {N : Int} {xs : List Int} (h : IsLst N xs) : xs.Nodup := by
 have hlt : ∀ j k, j < k → k < xs.length → gi xs j < gi xs k := by
  intro j k hjk hk
  induction k with
  | zero => omega
  | succ k ih =>
   have h2 := (h (k + 1) hk).2 (by omega)
   simp only [Nat.add_sub_cancel] at h2
   rcases Nat.lt_succ_iff_lt_or_eq.1 hjk with h3 | rfl
   ·have := ih h3 (by omega); omega
   ·exact h2
 rw [List.nodup_iff_pairwise_ne, List.pairwise_iff_getElem]
 intro i j hi hj hij he
 have := hlt i j hij hj
 rw [gi_ext hi, gi_ext hj] at he
 omega
theorem Cs.of {os vs xs : List Int} {D : Int} (h : codeS os D vs xs = 0) (hi : isoB vs xs = true) : Cs os D vs xs := by
 obtain ⟨hM, hI, hc⟩ := codeS_0 h
 unfold clB at hc
 rw [Bool.and_eq_true, hasB_iff] at hc
 refine ⟨hM, hI.mem, hI.nodup, hc.1, fun x hx y hy => ?_, fun x hx => ?_⟩
 ·have h1 := List.all_eq_true.1 hc.2 x hx
  exact hasB_iff.1 (List.all_eq_true.1 h1 y hy)
 ·have h1 := List.all_eq_true.1 hi x hx
  simpa using h1
def ldr (os xs : List Int) (x : Int) : Int := xs.foldl (fun a h => min a (Ar os x h)) x
theorem foldMin (f : Int → Int) (xs : List Int) : ∀ a, xs.foldl (fun a h => min a (f h)) a ≤ a ∧ (∀ h ∈ xs, xs.foldl (fun a h => min a (f h)) a ≤ f h) ∧ (xs.foldl (fun a h => min a (f h)) a = a ∨ ∃ h ∈ xs, xs.foldl (fun a h => min a (f h)) a = f h) := by
 induction xs with
 | nil => intro a; exact ⟨Int.le_refl _, by simp, .inl rfl⟩
 | cons x r ih =>
  intro a
  obtain ⟨h1, h2, h3⟩ := ih (min a (f x))
  simp only [List.foldl_cons]
  refine ⟨by omega, fun h hh => ?_, ?_⟩
  ·rcases List.mem_cons.1 hh with rfl | hh
   ·omega
   ·exact h2 h hh
  ·rcases h3 with h3 | ⟨h, hh, h3⟩
   ·rw [h3]
    by_cases hc : a ≤ f x
    ·exact .inl (by omega)
    ·exact .inr ⟨x, by simp, by omega⟩
   ·exact .inr ⟨h, by simp [hh], h3⟩
theorem ldr_le (os xs : List Int) (x : Int) : ldr os xs x ≤ x := (foldMin _ xs x).1
theorem ldr_le_add {os xs : List Int} {x h : Int} (hh : h ∈ xs) : ldr os xs x ≤ Ar os x h := (foldMin _ xs x).2.1 h hh
section
variable {os vs xs : List Int} {D : Int} (hC : Cs os D vs xs)
include hC
theorem Cs.g : OkG os := hC.m.ok.g
theorem Cs.at0 {x : Int} (h0 : 0 ≤ x) (h1 : x < prodL os) : Ar os x 0 = x := Ar_zero hC.g h0 h1
theorem Cs.len (h : xs.length ≠ 0 → True) : (xs.length : Int) ≤ prodL os := by
 have hp := hC.g.ge
 have := hC.nodup.length_le_of_subset (l₂ := (List.range (prodL os).toNat).map fun (x : Nat) => (x : Int)) (fun y hy => by
  have := hC.rng y hy
  exact List.mem_map.2 ⟨y.toNat, List.mem_range.2 (by omega), by omega⟩)
 simp at this
 omega
theorem Cs.ldr_mem {x : Int} (h0 : 0 ≤ x) (h1 : x < prodL os) : ∃ h ∈ xs, ldr os xs x = Ar os x h := by
 rcases (foldMin (fun h => Ar os x h) xs x).2.2 with h | h
 ·exact ⟨0, hC.zero, by rw [hC.at0 h0 h1]; exact h⟩
 ·exact h
theorem Cs.cancel {h a b : Int} (hh : h ∈ xs) (ha : a ∈ xs) (hb : b ∈ xs) (he : Ar os h a = Ar os h b) : a = b := by
 have h1 : Ar os (Ng os h) (Ar os h a) = Ar os (Ng os h) (Ar os h b) := by rw [he]
 rw [← Ar_assoc hC.g, ← Ar_assoc hC.g, Ar_comm os (Ng os h) h, Ar_neg hC.g, Ar_comm os 0 a, Ar_comm os 0 b, hC.at0 (hC.rng a ha).1 (hC.rng a ha).2, hC.at0 (hC.rng b hb).1 (hC.rng b hb).2] at h1
 exact h1
theorem Cs.inv {h : Int} (hh : h ∈ xs) : ∃ g ∈ xs, Ar os h g = 0 := by
 refine Classical.byContradiction fun hn => ?_
 have hnd : (0 :: xs.map (Ar os h)).Nodup := by
  rw [List.nodup_cons]
  refine ⟨fun hm => ?_, ?_⟩
  ·obtain ⟨g, hg, he⟩ := List.mem_map.1 hm
   exact hn ⟨g, hg, he⟩
  ·rw [List.nodup_iff_pairwise_ne, List.pairwise_map]
   exact (List.nodup_iff_pairwise_ne.1 hC.nodup).imp_of_mem fun {a b} ha hb hab he => hab (hC.cancel hh ha hb he)
 have := hnd.length_le_of_subset (l₂ := xs) (fun y hy => by
  rcases List.mem_cons.1 hy with rfl | hy
  ·exact hC.zero
  ·obtain ⟨g, hg, rfl⟩ := List.mem_map.1 hy
   exact hC.add h hh g hg)
 simp at this
 omega
theorem Cs.coset {x h : Int} (h0 : 0 ≤ x) (h1 : x < prodL os) (hh : h ∈ xs) : ldr os xs (Ar os x h) = ldr os xs x := by
 have hr := Ar_rng hC.g x h
 obtain ⟨k, hk, ek⟩ := hC.ldr_mem h0 h1
 obtain ⟨j, hj, ej⟩ := hC.ldr_mem hr.1 hr.2
 obtain ⟨g, hg, eg⟩ := hC.inv hh
 have a1 : ldr os xs x ≤ ldr os xs (Ar os x h) := by
  rw [ej, Ar_assoc hC.g]
  exact ldr_le_add (hC.add h hh j hj)
 have a2 : ldr os xs (Ar os x h) ≤ ldr os xs x := by
  have e : Ar os x k = Ar os (Ar os x h) (Ar os g k) := by
   rw [Ar_assoc hC.g, ← Ar_assoc hC.g h g k, eg, Ar_comm os 0 k, hC.at0 (hC.rng k hk).1 (hC.rng k hk).2]
  rw [ek, e]
  exact ldr_le_add (hC.add g hg k hk)
 omega
theorem Cs.ldr_rng {x : Int} (h0 : 0 ≤ x) (h1 : x < prodL os) : 0 ≤ ldr os xs x ∧ ldr os xs x < prodL os := by
 obtain ⟨k, hk, ek⟩ := hC.ldr_mem h0 h1
 rw [ek]; exact Ar_rng hC.g x k
theorem Cs.ldr_ldr {x : Int} (h0 : 0 ≤ x) (h1 : x < prodL os) : ldr os xs (ldr os xs x) = ldr os xs x := by
 obtain ⟨k, hk, ek⟩ := hC.ldr_mem h0 h1
 rw [ek, hC.coset h0 h1 hk, ek]
theorem Cs.same {x y : Int} (x0 : 0 ≤ x) (x1 : x < prodL os) (y0 : 0 ≤ y) (y1 : y < prodL os) (he : ldr os xs y = ldr os xs x) : ∃ h ∈ xs, y = Ar os x h := by
 obtain ⟨k, hk, ek⟩ := hC.ldr_mem x0 x1
 obtain ⟨j, hj, ej⟩ := hC.ldr_mem y0 y1
 obtain ⟨g, hg, eg⟩ := hC.inv hj
 refine ⟨Ar os k g, hC.add k hk g hg, ?_⟩
 rw [← Ar_assoc hC.g, ← ek, ← he, ej, Ar_assoc hC.g, eg, hC.at0 y0 y1]
end
theorem mem_ortL {os vs xs : List Int} {D : Int} {k : Nat} {x : Int} : x ∈ ortL os D vs xs k ↔ 0 ≤ x ∧ x < k ∧ ∀ y ∈ xs, Pr os D vs x y = 0 := by
 unfold ortL ortB
 simp only [List.mem_map, List.mem_filter, List.mem_range, List.all_eq_true, beq_iff_eq]
 constructor
 ·rintro ⟨j, ⟨h1, h2⟩, rfl⟩; exact ⟨by omega, by omega, h2⟩
 ·rintro ⟨h0, h1, h2⟩
  exact ⟨x.toNat, ⟨by omega, by rwa [Int.toNat_of_nonneg h0]⟩, by omega⟩
theorem ortL_lt (os vs xs : List Int) (D : Int) (k : Nat) : (ortL os D vs xs k).Pairwise (· < ·) := by
 unfold ortL
 refine List.Pairwise.map _ (R := (· < ·)) (fun a b h => by simpa using h) ?_
 exact List.Pairwise.filter _ List.pairwise_lt_range
def ldL (os xs O : List Int) (k : Nat) : List Int := (O.take k).filter fun x => ldr os xs x == x
theorem ldL_t {os xs O : List Int} {k : Nat} (hk : k < O.length) (h : ldr os xs (gi O k) = gi O k) : ldL os xs O (k + 1) = ldL os xs O k ++ [gi O k] := by
 unfold ldL; rw [take_gi hk, List.filter_append]; simp [h]
theorem ldL_f {os xs O : List Int} {k : Nat} (hk : k < O.length) (h : ldr os xs (gi O k) ≠ gi O k) : ldL os xs O (k + 1) = ldL os xs O k := by
 unfold ldL; rw [take_gi hk, List.filter_append]; simp [h]
theorem ldL_sub {os xs O : List Int} {k : Nat} : ∀ x ∈ ldL os xs O k, x ∈ O.take k := fun x hx => (List.mem_filter.1 hx).1
theorem ldL_len (os xs O : List Int) (k : Nat) : (ldL os xs O k).length ≤ k := by
 unfold ldL
 exact Nat.le_trans (List.length_filter_le _ _) (by rw [List.length_take]; omega)
theorem idxF_app {q r : List Int} {v : Int} (h : v ∈ q) : idxF (q ++ r) v = idxF q v := by
 unfold idxF
 rw [if_pos (hasB_iff.2 h), if_pos (hasB_iff.2 (by simp [h]))]
 congr 1
 rw [List.findIdx_append, if_pos (List.findIdx_lt_length.2 ⟨v, h, by simp⟩)]
theorem idxF_new {q : List Int} {v : Int} (h : v ∉ q) : idxF (q ++ [v]) v = q.length := by
 refine idxF_at (k := q.length) (by simp) (by simp [gi]) fun j hj he => h ?_
 rw [gi_app_l hj] at he
 rw [← he]; exact gi_mem hj
def ctab (os xs L : List Int) : List (List Int) := L.map fun x => L.map fun y => idxF L (ldr os xs (Ar os x y))
def Cov (M : DataW Unit) (N : Int) (P : Int → Prop) (f : Int → Int) : Prop := ∀ y, 0 ≤ y → y < N → (Maps.has M (.int .i64 y) = true ↔ P y) ∧ (P y → M.atKey (.int .i64 y) (.lit (.int .i64 0)) = .lit (.int .i64 (f y)))
theorem Cov.none {N : Int} {f : Int → Int} : Cov (.map []) N (fun _ => False) f := fun y _ _ => ⟨by simp [Maps.has], fun h => h.elim⟩
theorem Cov.imp {M : DataW Unit} {N : Int} {P Q : Int → Prop} {f g : Int → Int} (h : Cov M N P f) (hp : ∀ y, 0 ≤ y → y < N → (P y ↔ Q y)) (hf : ∀ y, 0 ≤ y → y < N → Q y → f y = g y) : Cov M N Q g := fun y h0 h1 =>
 ⟨(h y h0 h1).1.trans (hp y h0 h1), fun hq => by rw [(h y h0 h1).2 ((hp y h0 h1).2 hq), hf y h0 h1 hq]⟩
theorem Cov.put {M : DataW Unit} {N : Int} {P : Int → Prop} {f : Int → Int} (h : Cov M N P f) (hM : Maps.IsMap M) {z v : Int} (hv : f z = v) : Cov (M.put (.int .i64 z) (.lit (.int .i64 v))) N (fun y => P y ∨ y = z) f := by
 have hk : WideAt.IsKeyLit (.int .i64 z) := by simp [WideAt.IsKeyLit]
 intro y h0 h1
 by_cases e : y = z
 ·subst e
  exact ⟨⟨fun _ => .inr rfl, fun _ => Maps.has_put_same hM hk _⟩, fun _ => by rw [Maps.atKey_put_same hM hk, hv]⟩
 ·have hne : (Lit.int .i64 y) ≠ (Lit.int .i64 z) := fun h => e (by injection h)
  rw [Maps.has_put_other hne, Maps.atKey_put_other hne]
  refine ⟨(h y h0 h1).1.trans ⟨.inl, fun hp => hp.elim id fun h => absurd h e⟩, fun hp => (h y h0 h1).2 (hp.elim id fun h => absurd h e)⟩
section
variable {os vs xs O : List Int} {D : Int} (hC : Cs os D vs xs) (hO : O = ortL os D vs xs vs.length)
include hC hO
theorem Cs.memO {x : Int} : x ∈ O ↔ 0 ≤ x ∧ x < prodL os ∧ ∀ y ∈ xs, Pr os D vs x y = 0 := by
 rw [hO, mem_ortL, hC.m.ok.len]
theorem Cs.bilI {x y z : Int} (x0 : 0 ≤ x) (x1 : x < prodL os) (y0 : 0 ≤ y) (y1 : y < prodL os) (z0 : 0 ≤ z) (z1 : z < prodL os) : Pr os D vs (Ar os x y) z = (Pr os D vs x z + Pr os D vs y z) % D := by
 have _h := hO
 have := hC.m.bil x.toNat y.toNat z.toNat (by omega) (by omega) (by omega)
 rwa [Int.toNat_of_nonneg x0, Int.toNat_of_nonneg y0, Int.toNat_of_nonneg z0] at this
theorem Cs.addO {x y : Int} (hx : x ∈ O) (hy : y ∈ O) : Ar os x y ∈ O := by
 rw [hC.memO hO] at hx hy ⊢
 have hr := Ar_rng hC.g x y
 refine ⟨hr.1, hr.2, fun z hz => ?_⟩
 rw [hC.bilI hO hx.1 hx.2.1 hy.1 hy.2.1 (hC.rng z hz).1 (hC.rng z hz).2, hx.2.2 z hz, hy.2.2 z hz]
 simp
theorem Cs.subO {h : Int} (hh : h ∈ xs) : h ∈ O := by
 rw [hC.memO hO]
 refine ⟨(hC.rng h hh).1, (hC.rng h hh).2, fun z hz => ?_⟩
 unfold Pr
 rw [hC.iso _ (hC.add h hh z hz), hC.iso h hh, hC.iso z hz]
 simp
theorem Cs.ldrO {x : Int} (hx : x ∈ O) : ldr os xs x ∈ O := by
 have h1 := (hC.memO hO).1 hx
 obtain ⟨k, hk, ek⟩ := hC.ldr_mem h1.1 h1.2.1
 rw [ek]; exact hC.addO hO hx (hC.subO hO hk)
theorem Cs.lenO : O.length ≤ 16 := by
 rw [hO]; exact Nat.le_trans (ortL_len _ _ _ _ _) hC.m.ok.lt
theorem Cs.taken {k : Nat} (hk : k < O.length) {y : Int} (hy : y ∈ O) : y ∈ O.take k ↔ y < gi O k := by
 have _h := hC
 have hs : O.Pairwise (· < ·) := by rw [hO]; exact ortL_lt _ _ _ _ _
 constructor
 ·intro h
  obtain ⟨j, hj, rfl⟩ := List.mem_iff_getElem.1 h
  simp at hj
  rw [List.getElem_take, ← gi_ext hk]
  exact List.pairwise_iff_getElem.1 hs j k (by omega) hk (by omega)
 ·intro h
  obtain ⟨j, hj, rfl⟩ := List.mem_iff_getElem.1 hy
  by_cases hjk : j < k
  ·exact List.mem_iff_getElem.2 ⟨j, by simp; omega, by rw [List.getElem_take]⟩
  ·exfalso
   rw [← gi_ext hk] at h
   rcases Nat.lt_or_ge k j with hl | hl
   ·have := List.pairwise_iff_getElem.1 hs k j hk hj hl; omega
   ·obtain rfl : j = k := by omega
    omega
def CovK (os xs O : List Int) (k : Nat) (y : Int) : Prop := y ∈ O ∧ ldr os xs y ∈ O.take k
omit hC hO in
theorem CovK.zero (y : Int) : ¬ CovK os xs O 0 y := fun h => by simpa using h.2
theorem Cs.met {k : Nat} (hk : k < O.length) : CovK os xs O k (gi O k) ↔ ldr os xs (gi O k) ≠ gi O k := by
 have hm := gi_mem hk
 unfold CovK
 rw [hC.taken hO hk (hC.ldrO hO hm)]
 have := ldr_le os xs (gi O k)
 constructor
 ·rintro ⟨_, h⟩; omega
 ·intro h; exact ⟨hm, by omega⟩
omit hC hO in
theorem mem_take_succ {k : Nat} (hk : k < O.length) {y : Int} : y ∈ O.take (k + 1) ↔ y ∈ O.take k ∨ y = gi O k := by rw [take_gi hk]; simp
theorem Cs.covF {k : Nat} (hk : k < O.length) (h : ldr os xs (gi O k) ≠ gi O k) (y : Int) : CovK os xs O k y ↔ CovK os xs O (k + 1) y := by
 unfold CovK
 rw [mem_take_succ hk]
 refine ⟨fun h => ⟨h.1, .inl h.2⟩, fun h' => ⟨h'.1, h'.2.resolve_right fun e => h ?_⟩⟩
 have hy := (hC.memO hO).1 h'.1
 rw [← e]; exact hC.ldr_ldr hy.1 hy.2.1
theorem Cs.covT {k : Nat} (hk : k < O.length) (h : ldr os xs (gi O k) = gi O k) (y : Int) (h0 : 0 ≤ y) (h1 : y < prodL os) : (CovK os xs O k y ∨ ∃ j, j < xs.length ∧ y = Ar os (gi O k) (gi xs j)) ↔ CovK os xs O (k + 1) y := by
 have hm := gi_mem hk
 have hmr := (hC.memO hO).1 hm
 unfold CovK
 rw [mem_take_succ hk]
 constructor
 ·rintro (h2 | ⟨j, hj, rfl⟩)
  ·exact ⟨h2.1, .inl h2.2⟩
  ·exact ⟨hC.addO hO hm (hC.subO hO (gi_mem hj)), .inr (by rw [hC.coset hmr.1 hmr.2.1 (gi_mem hj), h])⟩
 ·rintro ⟨h2, h3 | h3⟩
  ·exact .inl ⟨h2, h3⟩
  ·obtain ⟨g, hg, e⟩ := hC.same hmr.1 hmr.2.1 h0 h1 (by rw [h3, h])
   obtain ⟨j, hj, rfl⟩ := List.mem_iff_getElem.1 hg
   exact .inr ⟨j, hj, by rw [← gi_ext hj]; exact e⟩
theorem Cs.idx {k : Nat} {y : Int} (hc : CovK os xs O k y) : ldr os xs y ∈ ldL os xs O k := by
 have hy := (hC.memO hO).1 hc.1
 unfold ldL
 rw [List.mem_filter]
 exact ⟨hc.2, by simpa using hC.ldr_ldr hy.1 hy.2.1⟩
theorem Cs.notL {k : Nat} (hk : k < O.length) : gi O k ∉ ldL os xs O k := fun h => by
 have := (hC.taken hO hk (gi_mem hk)).1 (ldL_sub _ h)
 omega
theorem Cs.covEnd {y : Int} (hy : y ∈ O) : CovK os xs O O.length y := ⟨hy, by rw [List.take_length]; exact hC.ldrO hO hy⟩
theorem Cs.lrng {k : Nat} : ∀ x ∈ ldL os xs O k, x ∈ O ∧ 0 ≤ x ∧ x < prodL os := fun x hx => by
 have h1 := List.mem_of_mem_take (ldL_sub _ hx)
 have := (hC.memO hO).1 h1
 exact ⟨h1, this.1, this.2.1⟩
end
noncomputable def bt (os : List Int) (D : Int) (vs : List Int) (x y : Int) : Int := (rp D.toNat (Pr os D vs x y) : Int)
theorem ordB_dvd {D : Int} (h : ordB D = true) : 1 ≤ D.toNat ∧ D.toNat ∣ 55440 ∧ ((D.toNat : Nat) : Int) = D := by
 unfold ordB at h
 obtain ⟨h1, h2⟩ := of_decide_eq_true h
 obtain ⟨d, rfl⟩ := Int.eq_ofNat_of_zero_le (show 0 ≤ D by omega)
 refine ⟨by omega, Nat.dvd_of_mod_eq_zero ?_, by simp⟩
 have : ((55440 % d : Nat) : Int) = 0 := by rw [Int.natCast_emod]; exact h2
 exact Int.ofNat.inj this
section
variable {os vs : List Int} {D : Int} (hM : IsM os D vs)
include hM
theorem bilI {x y z : Int} (x0 : 0 ≤ x) (x1 : x < vs.length) (y0 : 0 ≤ y) (y1 : y < vs.length) (z0 : 0 ≤ z) (z1 : z < vs.length) : Pr os D vs (Ar os x y) z = (Pr os D vs x z + Pr os D vs y z) % D := by
 have hl := hM.ok.len
 obtain ⟨a, rfl⟩ := Int.eq_ofNat_of_zero_le x0
 obtain ⟨b, rfl⟩ := Int.eq_ofNat_of_zero_le y0
 obtain ⟨c, rfl⟩ := Int.eq_ofNat_of_zero_le z0
 exact hM.bil a b c (by omega) (by omega) (by omega)
theorem Pr_comm (x y : Int) : Pr os D vs x y = Pr os D vs y x := by
 unfold Pr
 rw [Ar_comm os x y]
 congr 1
 omega
theorem Vl_rng {x : Int} (x0 : 0 ≤ x) (x1 : x < vs.length) : 0 ≤ Vl vs x ∧ Vl vs x < D := by
 unfold Vl
 exact hM.ok.rng _ (gi_mem (by omega))
theorem Vl_add (x y : Int) : Vl vs (Ar os x y) % D = (Vl vs x + Vl vs y + Pr os D vs x y) % D := by
 unfold Pr
 rw [Int.add_emod_emod]
 congr 1
 omega
theorem bt_add {x y z : Int} (x0 : 0 ≤ x) (x1 : x < vs.length) (y0 : 0 ≤ y) (y1 : y < vs.length) (z0 : 0 ≤ z) (z1 : z < vs.length) : Cg (bt os D vs (Ar os x y) z) (bt os D vs x z * bt os D vs y z) := by
 obtain ⟨h1, h2, h3⟩ := ordB_dvd hM.ord
 have e : rp D.toNat (Pr os D vs (Ar os x y) z) = rp D.toNat (Pr os D vs x z + Pr os D vs y z) := rp_cg (by rw [h3, bilI hM x0 x1 y0 y1 z0 z1, Int.emod_emod])
 unfold bt
 rw [e]
 exact rp_addC h1 h2 _ _
theorem bt_comm (x y : Int) : bt os D vs x y = bt os D vs y x := by unfold bt; rw [Pr_comm hM]
theorem bt_one {x y : Int} (h : Cg (bt os D vs x y) 1) : Pr os D vs x y = 0 := by
 obtain ⟨h1, h2, h3⟩ := ordB_dvd hM.ord
 have hr := Pr_rng hM.ok x y
 unfold bt at h
 have := h.small (by omega) (by have := rp_lt D.toNat (Pr os D vs x y); omega) (by omega) (by omega)
 have h4 := rp_one h1 h2 (k := Pr os D vs x y) (by exact_mod_cast this)
 rw [h3, Int.emod_eq_of_lt hr.1 hr.2] at h4
 exact h4
theorem bt_zero {x y : Int} (h : Pr os D vs x y = 0) : bt os D vs x y = 1 := by
 obtain ⟨h1, h2, h3⟩ := ordB_dvd hM.ord
 unfold bt
 rw [h, rp_zero h2]; rfl
end
structure SbM (os vs H : List Int) : Prop where
 sb : Sbg os H
 lt : H.Pairwise (· < ·)
 rng : ∀ x ∈ H, 0 ≤ x ∧ x < vs.length
theorem SbM.nd {os vs H : List Int} (h : SbM os vs H) : H.Nodup := h.lt.imp fun h => by omega
section
variable {os vs H : List Int} {D : Int} (hM : IsM os D vs) (hH : SbM os vs H)
include hM
theorem whole_sb : SbM os vs (els vs.length) := ⟨els_sbg hM.ok.g hM.ok.len, by
  unfold els
  exact List.Pairwise.map _ (R := (· < ·)) (fun a b h => by simpa using h) List.pairwise_lt_range, fun x hx => mem_els.1 hx⟩
include hH
theorem pair_sum {x : Int} (x0 : 0 ≤ x) (x1 : x < vs.length) :
  ((∀ y ∈ H, Pr os D vs x y = 0) → smL (fun y => bt os D vs x y) H = H.length) ∧ ((∃ y ∈ H, Pr os D vs x y ≠ 0) → Cg (smL (fun y => bt os D vs x y) H) 0) := by
 refine ⟨fun h => ?_, fun ⟨y, hy, hne⟩ => ?_⟩
 ·rw [smL_ext (g := fun _ => 1) fun y hy => bt_zero hM (h y hy), smL_const]; omega
 ·refine char_zero hM.ok.g hM.ok.len hH.sb hH.nd hH.rng (χ := fun y => bt os D vs x y) (fun a ha b hb => ?_) hy (fun h => hne (bt_one hM h))
  have ra := hH.rng a ha
  have rb := hH.rng b hb
  show Cg (bt os D vs x (Ar os a b)) (bt os D vs x a * bt os D vs x b)
  rw [bt_comm hM x (Ar os a b), bt_comm hM x a, bt_comm hM x b]
  exact bt_add hM ra.1 ra.2 rb.1 rb.2 x0 x1
theorem mem_ort {x : Int} : x ∈ ortL os D vs H vs.length ↔ (0 ≤ x ∧ x < vs.length) ∧ ∀ y ∈ H, Pr os D vs x y = 0 := by
 unfold ortL ortB
 simp only [List.mem_map, List.mem_filter, List.mem_range, List.all_eq_true, beq_iff_eq]
 constructor
 ·rintro ⟨j, ⟨h1, h2⟩, rfl⟩; exact ⟨⟨by omega, by omega⟩, h2⟩
 ·rintro ⟨⟨h0, h1⟩, h2⟩; exact ⟨x.toNat, ⟨by omega, by rwa [Int.toNat_of_nonneg h0]⟩, by omega⟩
theorem ort_sb : SbM os vs (ortL os D vs H vs.length) := by
 have hG := hM.ok.g
 have hl := hM.ok.len
 have hge := hG.ge
 refine ⟨⟨(mem_ort hM hH).2 ⟨⟨by omega, by omega⟩, fun y hy => ?_⟩, fun x hx y hy => ?_⟩, ?_, fun x hx => ((mem_ort hM hH).1 hx).1⟩
 ·have ry := hH.rng y hy
  unfold Pr
  rw [Ar_comm, Ar_zero hG ry.1 (by omega)]
  have h0 : Vl vs 0 = 0 := hM.zero
  rw [h0]
  simp
 ·obtain ⟨rx, px⟩ := (mem_ort hM hH).1 hx
  obtain ⟨ry, py⟩ := (mem_ort hM hH).1 hy
  have ra := Ar_rng hG x y
  refine (mem_ort hM hH).2 ⟨⟨ra.1, by omega⟩, fun z hz => ?_⟩
  have rz := hH.rng z hz
  rw [bilI hM rx.1 rx.2 ry.1 ry.2 rz.1 rz.2, px z hz, py z hz]
  simp
 ·unfold ortL
  refine List.Pairwise.map _ (R := (· < ·)) (fun a b h => by simpa using h) ?_
  exact List.Pairwise.filter _ List.pairwise_lt_range
theorem sum_ort : Cg (smL (fun x => smL (fun y => bt os D vs x y) H) (els vs.length)) (((ortL os D vs H vs.length).length : Int) * H.length) := by
 have e : Cg (smL (fun x => smL (fun y => bt os D vs x y) H) (els vs.length)) (smL (fun x => if (ortL os D vs H vs.length).contains x = true then (H.length : Int) else 0) (els vs.length)) := by
  refine smL_cg fun x hx => ?_
  obtain ⟨x0, x1⟩ := mem_els.1 hx
  have hp := pair_sum hM hH x0 x1
  by_cases h : ∀ y ∈ H, Pr os D vs x y = 0
  ·have hm : (ortL os D vs H vs.length).contains x = true := by
    rw [List.contains_iff_mem]; exact (mem_ort hM hH).2 ⟨⟨x0, x1⟩, h⟩
   rw [if_pos hm]; exact Cg.of_eq (hp.1 h)
  ·have hm : ¬ (ortL os D vs H vs.length).contains x = true := by
    rw [List.contains_iff_mem]; exact fun hm => h ((mem_ort hM hH).1 hm).2
   rw [if_neg hm]
   obtain ⟨y, hy⟩ := Classical.not_forall.1 h
   obtain ⟨hy1, hy2⟩ := Classical.not_imp.1 hy
   exact hp.2 ⟨y, hy1, hy2⟩
 refine e.trans (Cg.of_eq ?_)
 rw [smL_if (fun x => (ortL os D vs H vs.length).contains x) (fun _ => (H.length : Int)), smL_const]
 congr 2
 refine List.Perm.length_eq ((List.perm_ext_iff_of_nodup ((els_nodup _).filter _) (ort_sb hM hH).nd).2 fun v => ?_)
 rw [List.mem_filter, List.contains_iff_mem]
 exact ⟨fun h => h.2, fun h => ⟨mem_els.2 ((mem_ort hM hH).1 h).1, h⟩⟩
end
def Ndg (os : List Int) (D : Int) (vs : List Int) : Prop := ∀ x : Int, 0 ≤ x → x < vs.length → (∀ y : Int, 0 ≤ y → y < vs.length → Pr os D vs x y = 0) → x = 0
theorem Pr_z {os vs : List Int} {D : Int} (hM : IsM os D vs) {y : Int} (y0 : 0 ≤ y) (y1 : y < vs.length) : Pr os D vs 0 y = 0 := by
 have hl := hM.ok.len
 unfold Pr
 rw [Ar_comm, Ar_zero hM.ok.g y0 (by omega)]
 have h0 : Vl vs 0 = 0 := hM.zero
 rw [h0]
 simp
theorem ndg_iff {os vs : List Int} {D : Int} (hM : IsM os D vs) : (radL os D vs vs.length).length = 1 ↔ Ndg os D vs := by
 have hge := hM.ok.g.ge
 have hl := hM.ok.len
 have hmem : ∀ x : Int, x ∈ radL os D vs vs.length ↔ (0 ≤ x ∧ x < vs.length) ∧ ∀ y : Int, 0 ≤ y → y < vs.length → Pr os D vs x y = 0 := fun x => by
  unfold radL radB
  simp only [List.mem_map, List.mem_filter, List.mem_range, List.all_eq_true, beq_iff_eq]
  constructor
  ·rintro ⟨j, ⟨h1, h2⟩, rfl⟩
   refine ⟨⟨by omega, by omega⟩, fun y y0 y1 => ?_⟩
   have := h2 y.toNat (by omega)
   rwa [Int.toNat_of_nonneg y0] at this
  ·rintro ⟨⟨h0, h1⟩, h2⟩
   refine ⟨x.toNat, ⟨by omega, fun y hy => ?_⟩, by omega⟩
   rw [Int.toNat_of_nonneg h0]
   exact h2 y (by omega) (by omega)
 have hnd : (radL os D vs vs.length).Nodup := by
  unfold radL
  rw [List.nodup_iff_pairwise_ne, List.pairwise_map]
  exact (List.nodup_iff_pairwise_ne.1 (List.nodup_range.filter _)).imp fun h => by omega
 have h0 : (0 : Int) ∈ radL os D vs vs.length := (hmem 0).2 ⟨⟨by omega, by omega⟩, fun y y0 y1 => Pr_z hM y0 y1⟩
 constructor
 ·intro h x x0 x1 hx
  obtain ⟨a, ha⟩ := List.length_eq_one_iff.1 h
  have hxm := (hmem x).2 ⟨⟨x0, x1⟩, hx⟩
  rw [ha] at h0 hxm
  rw [List.mem_singleton.1 hxm, List.mem_singleton.1 h0]
 ·intro h
  have hp : (radL os D vs vs.length).Perm [0] := (List.perm_ext_iff_of_nodup hnd (by simp)).2 fun v => by
   rw [List.mem_singleton]
   exact ⟨fun hv => h v ((hmem v).1 hv).1.1 ((hmem v).1 hv).1.2 ((hmem v).1 hv).2, fun hv => hv ▸ h0⟩
  simpa using hp.length_eq
theorem ort_size {os vs H : List Int} {D : Int} (hM : IsM os D vs) (hH : SbM os vs H) (hn : Ndg os D vs) : (ortL os D vs H vs.length).length * H.length = vs.length := by
 have hge := hM.ok.g.ge
 have hl := hM.ok.len
 have h16 := hM.ok.lt
 have h1 := sum_ort hM hH
 rw [smL_swap] at h1
 have e : Cg (smL (fun y => smL (fun x => bt os D vs x y) (els vs.length)) H) (smL (fun y => if (y == 0) = true then (vs.length : Int) else 0) H) := by
  refine smL_cg fun y hy => ?_
  obtain ⟨y0, y1⟩ := hH.rng y hy
  have hp := pair_sum hM (whole_sb hM) y0 y1
  have e2 : smL (fun x => bt os D vs x y) (els vs.length) = smL (fun x => bt os D vs y x) (els vs.length) := smL_ext fun x _ => bt_comm hM x y
  show Cg (smL (fun x => bt os D vs x y) (els vs.length)) _
  rw [e2]
  by_cases hz : y = 0
  ·subst hz
   rw [if_pos (by simp), hp.1 fun x hx => Pr_z hM (mem_els.1 hx).1 (mem_els.1 hx).2, els_length]
   exact Cg.rfl' _
  ·rw [if_neg (by simpa using hz)]
   refine hp.2 ?_
   refine Classical.byContradiction fun hno => hz (hn y y0 y1 fun x x0 x1 => ?_)
   refine Classical.byContradiction fun hne => hno ⟨x, mem_els.2 ⟨x0, x1⟩, hne⟩
 have e3 : smL (fun y => if (y == 0) = true then (vs.length : Int) else 0) H = vs.length := by
  rw [smL_if (fun y => y == 0) (fun _ => (vs.length : Int)), smL_const]
  have hp : (H.filter fun y => y == 0).Perm [0] := (List.perm_ext_iff_of_nodup (hH.nd.filter _) (by simp)).2 fun v => by
   rw [List.mem_filter, List.mem_singleton, beq_iff_eq]
   exact ⟨fun h => h.2, fun h => ⟨h ▸ hH.sb.zero, h⟩⟩
  rw [hp.length_eq]
  simp
 rw [e3] at e
 have h2 := h1.symm.trans e
 have l1 : (ortL os D vs H vs.length).length ≤ vs.length := ortL_len _ _ _ _ _
 have l2 : H.length ≤ vs.length := by
  have := hH.nd.length_le_of_subset (l₂ := els vs.length) fun x hx => mem_els.2 (hH.rng x hx)
  rwa [els_length] at this
 have l3 : (ortL os D vs H vs.length).length * H.length ≤ 16 * 16 := Nat.mul_le_mul (by omega) (by omega)
 have l4 : ((ortL os D vs H vs.length).length : Int) * H.length = (((ortL os D vs H vs.length).length * H.length : Nat) : Int) := by simp
 rw [l4] at h2
 have := h2.small (by omega) (by omega) (by omega) (by omega)
 omega
theorem ort_ort {os vs H : List Int} {D : Int} (hM : IsM os D vs) (hH : SbM os vs H) : ∀ x ∈ H, x ∈ ortL os D vs (ortL os D vs H vs.length) vs.length := fun x hx =>
 (mem_ort hM (ort_sb hM hH)).2 ⟨hH.rng x hx, fun y hy => by rw [Pr_comm hM]; exact ((mem_ort hM hH).1 hy).2 x hx⟩
theorem ort_back {os vs H : List Int} {D : Int} (hM : IsM os D vs) (hH : SbM os vs H) (hn : Ndg os D vs) : ortL os D vs (ortL os D vs H vs.length) vs.length = H := by
 have h1 := ort_size hM hH hn
 have h2 := ort_size hM (ort_sb hM hH) hn
 have hge := hM.ok.g.ge
 have hl := hM.ok.len
 have hpos : 0 < (ortL os D vs H vs.length).length := List.length_pos_of_mem (ort_sb hM hH).sb.zero
 have hlen : (ortL os D vs (ortL os D vs H vs.length) vs.length).length = H.length := by
  exact Nat.eq_of_mul_eq_mul_left hpos ((Nat.mul_comm _ _).trans (h2.trans h1.symm))
 have hs := ort_ort hM hH
 have hsb := ort_sb hM (ort_sb hM hH)
 refine lt_ext hsb.lt hH.lt fun v => ⟨fun hv => ?_, hs v⟩
 refine Classical.byContradiction fun hn => ?_
 have nd : (v :: H).Nodup := List.nodup_cons.2 ⟨hn, hH.nd⟩
 have := nd.length_le_of_subset (l₂ := ortL os D vs (ortL os D vs H vs.length) vs.length) fun y hy => by
  rcases List.mem_cons.1 hy with rfl | hy
  ·exact hv
  ·exact hs y hy
 simp at this
 omega
section
variable {os vs : List Int} {D : Int} (hM : IsM os D vs)
include hM
end
def ldP (os : List Int) (D : Int) (vs xs : List Int) : List Int := ldL os xs (ortL os D vs xs vs.length) (ortL os D vs xs vs.length).length
section
variable {os vs xs : List Int} {D : Int} (hC : Cs os D vs xs)
include hC
theorem Cs.sbM (hs : xs.Pairwise (· < ·)) : SbM os vs xs := ⟨⟨hC.zero, hC.add⟩, hs, fun x hx => by have := hC.rng x hx; have := hC.m.ok.len; omega⟩
end
end Go.Proofs.YtbpihnpakolooaaGreatDoor
