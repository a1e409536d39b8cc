
/- Roots of unity modulo the prime 55441, and their sums over a subgroup, told plainly. No program is walked here. -/
import Derived.Test.YtnoemhmmaicakaaMK
import Derived.Test.YtnoemhmmaicakaaP1a
namespace Go.Proofs.Ytnoemhmmaicakaa
open Go Go.RowKit Grp
set_option linter.unusedVariables false
set_option linter.unusedSectionVars false
/-! ### the prime -/
theorem prime_chk : ((List.range 236).all fun a => (List.range 236).all fun b => (55441 % (a * 236 + b) != 0) || (a * 236 + b == 1) || (a * 236 + b == 55441)) = true := by decide +kernel
theorem prime_div {d : Nat} (h : d ∣ 55441) : d = 1 ∨ d = 55441 := by
  have hle := Nat.le_of_dvd (by omega) h
  have h1 := List.all_eq_true.1 prime_chk (d / 236) (List.mem_range.2 (by omega))
  have h2 := List.all_eq_true.1 h1 (d % 236) (List.mem_range.2 (by omega))
  rw [show d / 236 * 236 + d % 236 = d by omega, Nat.mod_eq_zero_of_dvd h] at h2
  simpa using h2
theorem prime_mul {a b : Int} (h : (55441 : Int) ∣ a * b) : (55441 : Int) ∣ a ∨ (55441 : Int) ∣ b := by
  have h' : 55441 ∣ a.natAbs * b.natAbs := by rw [← Int.natAbs_mul]; exact Int.natAbs_dvd_natAbs.2 h
  rcases prime_div (Nat.gcd_dvd_left 55441 a.natAbs) with h1 | h1
  · right
    exact Int.natAbs_dvd_natAbs.1 (Nat.Coprime.dvd_of_dvd_mul_left h1 h')
  · left
    have := Nat.gcd_dvd_right 55441 a.natAbs
    rw [h1] at this
    exact Int.natAbs_dvd_natAbs.1 this
/-! ### powers -/
theorem pwr_add (a i j : Nat) : pwr a (i + j) = pwr a i * pwr a j % 55441 := by unfold pwr; rw [Nat.pow_add, Nat.mul_mod]
theorem pwr_pwr (a i j : Nat) : pwr (pwr a i) j = pwr a (i * j) := by unfold pwr; rw [← Nat.pow_mod, ← Nat.pow_mul]
theorem pwr_one (j : Nat) : pwr 1 j = 1 := by unfold pwr; rw [Nat.one_pow]
theorem pwr_zero (a : Nat) : pwr a 0 = 1 := by simp [pwr]
theorem pwr_mod {x D : Nat} (h : pwr x D = 1) (i : Nat) : pwr x i = pwr x (i % D) := by
  have e : pwr x (i % D + D * (i / D)) = pwr x (i % D) := by
    rw [pwr_add, ← pwr_pwr, h, pwr_one, Nat.mul_one]
    exact Nat.mod_eq_of_lt (pwr_lt _ _)
  rwa [Nat.mod_add_div] at e
theorem fermat : pwr 38 55440 = 1 := by decide +kernel
theorem rtu_pow {D : Nat} (hd : D ∣ 55440) : pwr (rtu D) D = 1 := by unfold rtu; rw [pwr_pwr, Nat.div_mul_cancel hd]; exact fermat
theorem pwr_gcd {a : Nat} (i j : Nat) : pwr a i = 1 → pwr a j = 1 → pwr a (Nat.gcd i j) = 1 := by
  induction i, j using Nat.gcd.induction with
  | H0 n => intro _ h; rwa [Nat.gcd_zero_left]
  | H1 m n _ ih => intro h1 h2; rw [Nat.gcd_rec]; exact ih (by rw [← pwr_mod h1]; exact h2) h1
theorem order_chk : ((List.range 236).all fun a => (List.range 236).all fun b => (55440 % (a * 236 + b) != 0) || (a * 236 + b == 55440) || pr5.any fun p => 55440 / p % (a * 236 + b) == 0) = true := by decide +kernel
theorem pwr38_one {m : Nat} (h : pwr 38 m = 1) : 55440 ∣ m := by
  have hg := pwr_gcd _ _ fermat h
  have hd := Nat.gcd_dvd_left 55440 m
  obtain ⟨g, eg⟩ : ∃ g, Nat.gcd 55440 m = g := ⟨_, rfl⟩
  rw [eg] at hg hd
  have hle := Nat.le_of_dvd (by omega) hd
  have h1 := List.all_eq_true.1 order_chk (g / 236) (List.mem_range.2 (by omega))
  have h2 := List.all_eq_true.1 h1 (g % 236) (List.mem_range.2 (by omega))
  rw [show g / 236 * 236 + g % 236 = g by omega, Nat.mod_eq_zero_of_dvd hd] at h2
  simp only [bne_self_eq_false, Bool.false_or, Bool.or_eq_true, beq_iff_eq, List.any_eq_true] at h2
  rcases h2 with h2 | ⟨p, hp, h2⟩
  · have := Nat.gcd_dvd_right 55440 m
    rwa [eg, h2] at this
  · exfalso
    obtain ⟨q, hq⟩ := Nat.dvd_of_mod_eq_zero h2
    have h3 : pwr 38 (55440 / p) = 1 := by rw [hq, ← pwr_pwr, hg, pwr_one]
    have h4 : noPrim 38 = true := List.any_eq_true.2 ⟨p, hp, by simpa using h3⟩
    rw [prim38] at h4
    cases h4
/-- The root's powers with one exponent or another. -/
theorem rp_pw {D : Nat} (hd : D ∣ 55440) (k : Nat) : rp D (k : Int) = pwr (rtu D) k := by
  unfold rp
  rw [pwr_mod (rtu_pow hd) k]
  congr 1
theorem rp_cg {D : Nat} {a b : Int} (h : a % D = b % D) : rp D a = rp D b := by unfold rp; rw [h]
theorem rp_add {D : Nat} (h1 : 1 ≤ D) (hd : D ∣ 55440) (a b : Int) : rp D (a + b) = rp D a * rp D b % 55441 := by
  have ra := Int.emod_nonneg a (show (D : Int) ≠ 0 by omega)
  have rb := Int.emod_nonneg b (show (D : Int) ≠ 0 by omega)
  obtain ⟨i, hi⟩ := Int.eq_ofNat_of_zero_le ra
  obtain ⟨j, hj⟩ := Int.eq_ofNat_of_zero_le rb
  have e1 : rp D a = rp D (i : Int) := rp_cg (by rw [← hi, Int.emod_emod])
  have e2 : rp D b = rp D (j : Int) := rp_cg (by rw [← hj, Int.emod_emod])
  have e3 : rp D (a + b) = rp D ((i + j : Nat) : Int) := rp_cg (by rw [Int.natCast_add, ← hi, ← hj, ← Int.add_emod])
  rw [e1, e2, e3, rp_pw hd, rp_pw hd, rp_pw hd, pwr_add]
theorem rp_zero {D : Nat} (hd : D ∣ 55440) : rp D 0 = 1 := by
  have := rp_pw hd 0
  rw [pwr_zero] at this
  exact this
theorem rp_one {D : Nat} (h1 : 1 ≤ D) (hd : D ∣ 55440) {k : Int} (h : rp D k = 1) : k % D = 0 := by
  have ra := Int.emod_nonneg k (show (D : Int) ≠ 0 by omega)
  have rb := Int.emod_lt_of_pos k (show 0 < (D : Int) by omega)
  obtain ⟨i, hi⟩ := Int.eq_ofNat_of_zero_le ra
  have e1 : rp D k = rp D (i : Int) := rp_cg (by rw [← hi, Int.emod_emod])
  rw [e1, rp_pw hd] at h
  unfold rtu at h
  rw [pwr_pwr] at h
  have h2 := pwr38_one h
  obtain ⟨q, hq⟩ := hd
  rw [hq, Nat.mul_div_cancel_left q (by omega)] at h2
  have hq0 : 0 < q := Nat.pos_of_ne_zero (fun h => by rw [h] at hq; omega)
  have h3 : D ∣ i := by
    rw [Nat.mul_comm D q] at h2
    exact Nat.dvd_of_mul_dvd_mul_left hq0 h2
  rw [hi] at rb ⊢
  have : i = 0 := Nat.eq_zero_of_dvd_of_lt h3 (by omega)
  rw [this]; rfl
/-! ### congruences -/
/-- Equal modulo the prime. -/
def Cg (a b : Int) : Prop := (55441 : Int) ∣ a - b
theorem Cg.rfl' (a : Int) : Cg a a := by unfold Cg; rw [Int.sub_self]; exact Int.dvd_zero _
theorem Cg.of_eq {a b : Int} (h : a = b) : Cg a b := h ▸ Cg.rfl' a
theorem Cg.symm {a b : Int} (h : Cg a b) : Cg b a := by unfold Cg at *; rw [← Int.neg_sub]; exact Int.dvd_neg.2 h
theorem Cg.trans {a b c : Int} (h : Cg a b) (k : Cg b c) : Cg a c := by
  unfold Cg at *
  have := Int.dvd_add h k
  rwa [show a - b + (b - c) = a - c by omega] at this
theorem Cg.add {a b c d : Int} (h : Cg a b) (k : Cg c d) : Cg (a + c) (b + d) := by
  unfold Cg at *
  have := Int.dvd_add h k
  rwa [show a - b + (c - d) = a + c - (b + d) by omega] at this
theorem Cg.mul {a b c d : Int} (h : Cg a b) (k : Cg c d) : Cg (a * c) (b * d) := by
  unfold Cg at *
  have := Int.dvd_add (Int.dvd_mul_of_dvd_left h (c := c)) (Int.dvd_mul_of_dvd_right k (b := b))
  rwa [show (a - b) * c + b * (c - d) = a * c - b * d by grind] at this
theorem Cg.mod (a : Int) : Cg (a % 55441) a := by
  unfold Cg
  rw [show a % 55441 - a = 55441 * (-(a / 55441)) by have := Int.emod_add_mul_ediv a 55441; omega]
  exact Int.dvd_mul_right _ _
theorem Cg.natMod (a : Nat) : Cg ((a % 55441 : Nat) : Int) (a : Int) := by
  rw [Int.natCast_emod]; exact Cg.mod _
theorem Cg.emod {a b : Int} (h : Cg a b) : a % 55441 = b % 55441 := by unfold Cg at h; omega
theorem Cg.small {a b : Int} (h : Cg a b) (a0 : 0 ≤ a) (a1 : a < 55441) (b0 : 0 ≤ b) (b1 : b < 55441) : a = b := by
  have := h.emod
  rwa [Int.emod_eq_of_lt a0 a1, Int.emod_eq_of_lt b0 b1] at this
theorem Cg.cancel {a b c : Int} (hc : ¬ Cg c 0) (h : Cg (c * a) (c * b)) : Cg a b := by
  unfold Cg at *
  rw [← Int.mul_sub] at h
  rcases prime_mul h with h | h
  · exact absurd (by simpa using h) hc
  · exact h
theorem rp_addC {D : Nat} (h1 : 1 ≤ D) (hd : D ∣ 55440) (a b : Int) : Cg (rp D (a + b)) ((rp D a : Int) * (rp D b : Int)) := by
  rw [rp_add h1 hd]
  have := Cg.natMod (rp D a * rp D b)
  rwa [Int.natCast_mul] at this
/-! ### sums over lists -/
/-- The sum over a list. -/
def smL (f : Int → Int) : List Int → Int
  | [] => 0
  | x :: r => f x + smL f r
theorem smL_perm {f : Int → Int} {a b : List Int} (h : a.Perm b) : smL f a = smL f b := by
  induction h with
  | nil => rfl
  | cons _ _ ih => simp only [smL, ih]
  | swap x y l => simp only [smL]; omega
  | trans _ _ h1 h2 => exact h1.trans h2
theorem smL_map (f g : Int → Int) (a : List Int) : smL f (a.map g) = smL (fun x => f (g x)) a := by
  induction a with
  | nil => rfl
  | cons x r ih => simp only [List.map_cons, smL, ih]
theorem smL_app (f : Int → Int) (a b : List Int) : smL f (a ++ b) = smL f a + smL f b := by
  induction a with
  | nil => simp [smL]
  | cons x r ih => simp only [List.cons_append, smL, ih]; omega
theorem smL_cg {f g : Int → Int} {a : List Int} (h : ∀ x ∈ a, Cg (f x) (g x)) : Cg (smL f a) (smL g a) := by
  induction a with
  | nil => exact Cg.rfl' _
  | cons x r ih => exact (h x (by simp)).add (ih fun y hy => h y (by simp [hy]))
theorem smL_mul (c : Int) (f : Int → Int) (a : List Int) : smL (fun x => c * f x) a = c * smL f a := by
  induction a with
  | nil => simp [smL]
  | cons x r ih => simp only [smL, ih, Int.mul_add]
theorem smL_add (f g : Int → Int) (a : List Int) : smL (fun x => f x + g x) a = smL f a + smL g a := by
  induction a with
  | nil => rfl
  | cons x r ih => simp only [smL, ih]; omega
theorem smL_zero (a : List Int) : smL (fun _ => 0) a = 0 := by
  induction a with
  | nil => rfl
  | cons x r ih => simp only [smL, ih]; rfl
theorem smL_const (c : Int) (a : List Int) : smL (fun _ => c) a = (a.length : Int) * c := by
  induction a with
  | nil => simp [smL]
  | cons x r ih => simp only [smL, ih, List.length_cons, Int.natCast_add]; grind
theorem smL_swap (f : Int → Int → Int) (a b : List Int) : smL (fun x => smL (fun y => f x y) b) a = smL (fun y => smL (fun x => f x y) a) b := by
  induction a with
  | nil => simp only [smL]; exact (smL_zero b).symm
  | cons x r ih => simp only [smL, ih, smL_add]
theorem smL_ext {f g : Int → Int} {a : List Int} (h : ∀ x ∈ a, f x = g x) : smL f a = smL g a := by
  induction a with
  | nil => rfl
  | cons x r ih => simp only [smL]; rw [h x (by simp), ih fun y hy => h y (by simp [hy])]
theorem smL_if (p : Int → Bool) (f : Int → Int) (a : List Int) : smL (fun x => if p x = true then f x else 0) a = smL f (a.filter p) := by
  induction a with
  | nil => rfl
  | cons x r ih =>
    simp only [smL, ih, List.filter_cons]
    split <;> simp [smL]
/-! ### a character over a subgroup -/
/-- All elements, in order. -/
def els (N : Nat) : List Int := (List.range N).map fun (x : Nat) => (x : Int)
theorem mem_els {N : Nat} {x : Int} : x ∈ els N ↔ 0 ≤ x ∧ x < N := by
  unfold els
  simp only [List.mem_map, List.mem_range]
  exact ⟨fun ⟨j, h, e⟩ => by omega, fun h => ⟨x.toNat, by omega, by omega⟩⟩
theorem els_nodup (N : Nat) : (els N).Nodup := by
  unfold els
  rw [List.nodup_iff_pairwise_ne, List.pairwise_map]
  exact (List.nodup_iff_pairwise_ne.1 List.nodup_range).imp fun h => by omega
theorem els_length (N : Nat) : (els N).length = N := by simp [els]
section
variable {os H : List Int} {N : Nat} (hG : OkG os) (hN : (N : Int) = prodL os) (hH : Sbg os H) (hd : H.Nodup) (hr : ∀ x ∈ H, 0 ≤ x ∧ x < N)
include hG hN hH hd hr
theorem shift_perm {h : Int} (hh : h ∈ H) : (H.map (Ar os h)).Perm H := by
  have hcn : (H.map (Ar os h)).Nodup := by
    rw [List.nodup_iff_pairwise_ne, List.pairwise_map]
    exact (List.nodup_iff_pairwise_ne.1 hd).imp_of_mem fun {a b} ha hb hab he => hab (sb_cancel hG hN hH hd hr ha hb he)
  refine (List.perm_ext_iff_of_nodup hcn hd).2 fun v => ⟨fun hv => ?_, fun hv => ?_⟩
  · obtain ⟨a, ha, rfl⟩ := List.mem_map.1 hv
    exact hH.add h hh a ha
  · obtain ⟨g, hg, hz⟩ := sb_inv hG hN hH hd hr hh
    refine List.mem_map.2 ⟨Ar os g v, hH.add g hg v hv, ?_⟩
    have rv := hr v hv
    rw [← Ar_assoc hG, hz, Ar_comm os 0 v, Ar_zero hG rv.1 (by omega)]
theorem char_zero {χ : Int → Int} (hm : ∀ a ∈ H, ∀ b ∈ H, Cg (χ (Ar os a b)) (χ a * χ b)) {h : Int} (hh : h ∈ H) (hne : ¬ Cg (χ h) 1) : Cg (smL χ H) 0 := by
  have e1 : smL χ H = smL (fun x => χ (Ar os h x)) H := by rw [← smL_map χ (Ar os h) H, smL_perm (shift_perm hG hN hH hd hr hh)]
  have h1 : Cg (smL χ H) (χ h * smL χ H) := (Cg.of_eq e1).trans ((smL_cg fun x hx => hm h hh x hx).trans (Cg.of_eq (smL_mul (χ h) χ H)))
  have h2 : (55441 : Int) ∣ (χ h - 1) * smL χ H := by
    have := h1.symm
    unfold Cg at this
    rwa [show χ h * smL χ H - smL χ H = (χ h - 1) * smL χ H by grind] at this
  rcases prime_mul h2 with h3 | h3
  · exact absurd h3 hne
  · unfold Cg; simpa using h3
end
theorem els_sbg {os : List Int} {N : Nat} (hG : OkG os) (hN : (N : Int) = prodL os) : Sbg os (els N) := by
  have hge := hG.ge
  exact ⟨mem_els.2 ⟨by omega, by omega⟩, fun x _ y _ => by have := Ar_rng hG x y; exact mem_els.2 ⟨this.1, by omega⟩⟩
end Go.Proofs.Ytnoemhmmaicakaa
