
/- How long a walk over draws lasts of which each tested one is 0 modulo 3, the tested ones two or four places apart; plain. No state of the generator starts so long a run of tests four places apart that are all 0 modulo 3; plain. The damage loop, plain: its rounds are bounded, and so is the size of its text. -/
import Derived.Test.YtonehmjoolflfaaGreatDoorZA
namespace Go.Proofs.YtonehmjoolflfaaGreatDoor
namespace Zl
/-- After c tests, each passed, the walk is at q. -/
def Trail (x c q : Nat) : Prop := ∃ p : Nat → Nat, p 0 = 0 ∧ p c = q ∧ ∀ i, i < c → (p (i + 1) = p i + 2 ∨ p (i + 1) = p i + 4) ∧ it x (p i) / SL % 3 = 0
theorem Trail.start (x : Nat) : Trail x 0 0 := ⟨fun _ => 0, rfl, rfl, fun i hi => absurd hi (Nat.not_lt_zero i)⟩
theorem Trail.step {x c q q' : Nat} (h : Trail x c q) (hz : it x q / SL % 3 = 0) (hq : q' = q + 2 ∨ q' = q + 4) : Trail x (c + 1) q' := by
  obtain ⟨p, h0, hc, hp⟩ := h
  refine ⟨fun i => if i ≤ c then p i else q', by simp [h0], if_neg (by omega), fun i hi => ?_⟩
  by_cases hic : i < c
  · have h1 : i ≤ c := by omega
    have h2 : i + 1 ≤ c := by omega
    simp only [h1, h2, if_true]
    exact hp i hic
  · obtain rfl : i = c := by omega
    have h2 : ¬ i + 1 ≤ i := by omega
    simp only [Nat.le_refl, if_true, h2, if_false]
    rw [hc]
    exact ⟨hq, hz⟩
theorem nx_par (x : Nat) : nx x % 2 = (x + 1) % 2 := by
  unfold nx ML aL cL
  omega
theorem it_par (x : Nat) : ∀ m : Nat, it x (2 * m) % 2 = x % 2 := by
  intro m
  induction m with
  | zero => rfl
  | succ m ih =>
    have e : it x (2 * (m + 1)) = nx (nx (it x (2 * m))) := by
      rw [Nat.mul_add, it_add]; rfl
    rw [e, nx_par]
    have := nx_par (it x (2 * m))
    omega
def KB : Nat := 5592406 * 4294967296
/-- No walk passes so many tests. -/
theorem trail_le {x c q : Nat} (hx : x < ML) (h : Trail x c q) (hc : c ≤ 36028797018963968) : c ≤ KB := by
  obtain ⟨p, h0, _, hp⟩ := h
  have hpos : ∀ i, i ≤ c → p i ≤ 4 * i ∧ 2 * i ≤ p i ∧ p i % 2 = 0 := by
    intro i
    induction i with
    | zero => intro _; rw [h0]; omega
    | succ i ih =>
      intro hi
      obtain ⟨a, b, d⟩ := ih (by omega)
      rcases (hp i (by omega)).1 with e | e <;> rw [e] <;> omega
  have hmono : ∀ i d, i + d + 1 ≤ c → p i < p (i + d + 1) := by
    intro i d
    induction d with
    | zero =>
      intro hi
      rcases (hp i (by omega)).1 with e | e
      · show p i < p (i + 1); omega
      · show p i < p (i + 1); omega
    | succ d ih =>
      intro hi
      have a := ih (by omega)
      have b := (hp (i + d + 1) (by omega)).1
      have e : i + (d + 1) + 1 = i + d + 1 + 1 := by omega
      rw [e]
      omega
  have hM : ML = 144115188075855872 := rfl
  have hS : SL = 8589934592 := rfl
  refine pig KB c (fun i => it x (p i) / SL / 3 * 4294967296 + it x (p i) % SL / 2) (fun i hi => ?_) (fun i j hi hj e => ?_)
  · have hl := it_lt hx (p i)
    have hz := (hp i hi).2
    have h1 : it x (p i) / SL < 16777216 := by rw [hS]; omega
    have h2 : it x (p i) % SL < 8589934592 := Nat.mod_lt _ (by rw [hS]; omega)
    show it x (p i) / SL / 3 * 4294967296 + it x (p i) % SL / 2 < KB
    unfold KB
    omega
  · have li := it_lt hx (p i)
    have lj := it_lt hx (p j)
    have zi := (hp i hi).2
    have zj := (hp j hj).2
    obtain ⟨a1, a2, a3⟩ := hpos i (by omega)
    obtain ⟨b1, b2, b3⟩ := hpos j (by omega)
    have pi : it x (p i) % 2 = x % 2 := by
      have := it_par x (p i / 2)
      rwa [show 2 * (p i / 2) = p i by omega] at this
    have pj : it x (p j) % 2 = x % 2 := by
      have := it_par x (p j / 2)
      rwa [show 2 * (p j / 2) = p j by omega] at this
    have e : it x (p i) / SL / 3 * 4294967296 + it x (p i) % SL / 2 = it x (p j) / SL / 3 * 4294967296 + it x (p j) % SL / 2 := e
    have m1 : it x (p i) % SL < 8589934592 := Nat.mod_lt _ (by rw [hS]; omega)
    have m2 : it x (p j) % SL < 8589934592 := Nat.mod_lt _ (by rw [hS]; omega)
    have hs : it x (p i) = it x (p j) := by
      rw [hS] at *
      omega
    have hpp := it_inj hx (show p i < ML by rw [hM]; omega) (show p j < ML by rw [hM]; omega) hs
    rcases Nat.lt_trichotomy i j with c1 | c1 | c1
    · have := hmono i (j - i - 1) (by omega)
      rw [show i + (j - i - 1) + 1 = j by omega] at this
      omega
    · exact c1
    · have := hmono j (i - j - 1) (by omega)
      rw [show j + (i - j - 1) + 1 = i by omega] at this
      omega
end Zl
namespace Zl
def UE : Nat := 18732249
def OE : Nat := 207051525
theorem dbl28 : dbl 28 = (1 + 1073741824 * UE, 268435456 * OE) := by decide +kernel
/-- The states 2^28 places apart are an arithmetic progression. -/
theorem it_ap {y : Nat} (hy : y < ML) : ∀ i : Nat, it y (268435456 * i) = (y + i * (268435456 * (4 * UE * y + OE))) % ML := by
  intro i
  induction i with
  | zero => rw [Nat.zero_mul, Nat.add_zero, Nat.mod_eq_of_lt hy]; rfl
  | succ i ih =>
    have hl := it_lt hy (268435456 * i)
    have h := it_dbl 28 hl
    rw [dbl28] at h
    rw [Nat.mul_succ, it_add]
    have e2 : (268435456 : Nat) = 2 ^ 28 := by decide
    rw [show it (it y (268435456 * i)) 268435456 = it (it y (268435456 * i)) (2 ^ 28) from rfl, h, ih]
    obtain ⟨d, hd⟩ : ∃ d, 4 * UE * y + OE = d := ⟨_, rfl⟩
    rw [hd]
    have hM : ML = 144115188075855872 := rfl
    -- ((y + i D) % M (1 + a) + c) % M
    rw [Nat.add_mod, Nat.mul_mod, Nat.mod_mod, ← Nat.mul_mod, ← Nat.add_mod]
    have e : (y + i * (268435456 * d)) * (1 + 1073741824 * UE) + 268435456 * OE = (y + (i + 1) * (268435456 * d)) + ML * (2 * UE * (i * d)) := by
      rw [hM, ← hd]
      unfold UE OE
      grind
    rw [e, Nat.add_mul_mod_self_left]
theorem it_27 {x i j : Nat} (hx : x < ML) (hi : i < 134217728) (hj : j < 134217728) (h : it x i % 134217728 = it x j % 134217728) : i = j := by
  have key : ∀ i j, i < j → j < 134217728 → it x i % 134217728 ≠ it x j % 134217728 := by
    intro i j hij hj h
    obtain ⟨k, m, hd⟩ := two_odd (j - i) (by omega)
    have hk : k < 27 := by
      refine Decidable.byContradiction fun hk => ?_
      have a : 2 ^ 27 ≤ 2 ^ k := Nat.pow_le_pow_right (by omega) (by omega)
      have b : 2 ^ k * 1 ≤ 2 ^ k * (2 * m + 1) := Nat.mul_le_mul_left _ (by omega)
      omega
    have hs := it_many (show k < 57 by omega) (2 * m + 1) (it_lt hx i)
    rw [← hd, ← it_add, show i + (j - i) = j by omega, hd] at hs
    have hdv : 2 ^ (k + 1) ∣ 134217728 := by
      have : (134217728 : Nat) = 2 ^ (k + 1) * 2 ^ (27 - (k + 1)) := by rw [← Nat.pow_add, show k + 1 + (27 - (k + 1)) = 27 by omega]
      exact ⟨_, this⟩
    have h2 : it x i % 2 ^ (k + 1) = it x j % 2 ^ (k + 1) := by
      rw [← Nat.mod_mod_of_dvd (it x i) hdv, ← Nat.mod_mod_of_dvd (it x j) hdv, h]
    rw [← h2] at hs
    generalize it x i = z at *
    have e1 : z + 2 ^ k * (2 * m + 1) = z + 2 ^ k + 2 ^ (k + 1) * m := by
      rw [Nat.mul_add, Nat.mul_one, Nat.pow_succ, Nat.mul_assoc]; omega
    rw [e1, Nat.add_mul_mod_self_left] at hs
    have hp : 2 ^ (k + 1) = 2 ^ k + 2 ^ k := by rw [Nat.pow_succ]; omega
    have hp1 : 0 < 2 ^ k := Nat.pow_pos (by omega)
    have a := Nat.div_add_mod z (2 ^ (k + 1))
    have b := Nat.mod_lt z (show 0 < 2 ^ (k + 1) by omega)
    rw [show z + 2 ^ k = (z % 2 ^ (k + 1) + 2 ^ k) + 2 ^ (k + 1) * (z / 2 ^ (k + 1)) by omega, Nat.add_mul_mod_self_left] at hs
    generalize z % 2 ^ (k + 1) = u at *
    by_cases c : u + 2 ^ k < 2 ^ (k + 1)
    · rw [Nat.mod_eq_of_lt c] at hs; omega
    · rw [Nat.mod_eq_sub_mod (by omega), Nat.mod_eq_of_lt (by omega)] at hs; omega
  rcases Nat.lt_trichotomy i j with c | c | c
  · exact absurd h (key i j c hj)
  · exact c
  · exact absurd h.symm (key j i c hi)
theorem it_4 (x : Nat) : ∀ n : Nat, it x (4 * n) % 4 = x % 4 := by
  have h1 : ∀ z, nx z % 4 = (z * 1 + 3) % 4 := fun z => by unfold nx ML aL cL; omega
  intro n
  induction n with
  | zero => rfl
  | succ n ih =>
    have e : it x (4 * (n + 1)) = nx (nx (nx (nx (it x (4 * n))))) := by rw [Nat.mul_add, it_add]; rfl
    rw [e]
    have a := h1 (it x (4 * n))
    have b := h1 (nx (it x (4 * n)))
    have c := h1 (nx (nx (it x (4 * n))))
    have d := h1 (nx (nx (nx (it x (4 * n)))))
    omega
/-- Some test is at a state whose progression has a small step. -/
theorem small_step {x : Nat} (hx : x < ML) : ∃ n o : Nat, n < 33554432 ∧ (4 * UE * it x (4 * n) + OE) % 536870912 = o ∧ 16 ≤ o ∧ o < 32 ∧ o % 2 = 1 := by
  have hr : ∀ n, (4 * UE * it x (4 * n) + OE) % 16 = (4 * UE * x + OE) % 16 := fun n => by
    have := it_4 x n
    unfold UE OE
    omega
  obtain ⟨r, hr0⟩ : ∃ r, (4 * UE * x + OE) % 16 = r := ⟨_, rfl⟩
  have hr2 : r % 2 = 1 := by rw [← hr0]; unfold UE OE; omega
  have hr16 : r < 16 := by omega
  refine Classical.byContradiction fun hn => ?_
  have hne : ∀ n, n < 33554432 → (4 * UE * it x (4 * n) + OE) % 536870912 / 16 ≠ 1 := fun n hn2 h0 => hn ⟨n, r + 16, hn2, by have := hr n; omega, by omega, by omega, by omega⟩
  have := pig 33554431 33554432 (fun n => (4 * UE * it x (4 * n) + OE) % 536870912 / 16 - 1) (fun n hn2 => by
    have := hne n hn2
    have : (4 * UE * it x (4 * n) + OE) % 536870912 < 536870912 := Nat.mod_lt _ (by omega)
    show (4 * UE * it x (4 * n) + OE) % 536870912 / 16 - 1 < 33554431
    omega) (fun i j hi hj e => by
    have e : (4 * UE * it x (4 * i) + OE) % 536870912 / 16 - 1 = (4 * UE * it x (4 * j) + OE) % 536870912 / 16 - 1 := e
    have a := hne i hi
    have b := hne j hj
    have c := hr i
    have d := hr j
    have ee : (4 * UE * it x (4 * i) + OE) % 536870912 = (4 * UE * it x (4 * j) + OE) % 536870912 := by omega
    have key : it x (4 * i) % 134217728 = it x (4 * j) % 134217728 := by
      clear a b c d e hne hn hr hr0
      have h4 : (UE * it x (4 * i)) % 134217728 = (UE * it x (4 * j)) % 134217728 := by
        rw [Nat.mul_assoc, Nat.mul_assoc] at ee
        omega
      -- UE is odd: an inverse modulo 2^27
      have inv : ∀ z : Nat, (85289833 * (UE * z)) % 134217728 = z % 134217728 := fun z => by
        rw [← Nat.mul_assoc, Nat.mul_mod]
        have : (85289833 * UE) % 134217728 = 1 := by decide +kernel
        rw [this, Nat.one_mul, Nat.mod_mod]
      rw [← inv (it x (4 * i)), ← inv (it x (4 * j)), Nat.mul_mod, h4, ← Nat.mul_mod]
    have := it_27 hx (show 4 * i < 134217728 by omega) (show 4 * j < 134217728 by omega) key
    omega)
  omega
theorem wraps {z D : Nat} (h1 : 4294967296 ≤ D) (h2 : D < 8589934592) (a0 : z / 8589934592 % 3 = 0) (a1 : (z + D) % 144115188075855872 / 8589934592 % 3 = 0) (a2 : (z + 2 * D) % 144115188075855872 / 8589934592 % 3 = 0) : 144115188075855872 ≤ z + 2 * D := by
  refine Nat.le_of_not_lt fun hlt => ?_
  rw [Nat.mod_eq_of_lt (show z + D < 144115188075855872 by omega)] at a1
  rw [Nat.mod_eq_of_lt hlt] at a2
  obtain ⟨q0, e0⟩ : ∃ q, z / 8589934592 = q := ⟨_, rfl⟩
  obtain ⟨q1, e1⟩ : ∃ q, (z + D) / 8589934592 = q := ⟨_, rfl⟩
  obtain ⟨q2, e2⟩ : ∃ q, (z + 2 * D) / 8589934592 = q := ⟨_, rfl⟩
  rw [e0] at a0
  rw [e1] at a1
  rw [e2] at a2
  have c1 : q1 = q0 ∨ q1 = q0 + 1 := by omega
  have d1 : q1 = q0 := by omega
  have c2 : q2 = q1 ∨ q2 = q1 + 1 := by omega
  have d2 : q2 ≠ q0 := by omega
  omega
/-- A progression of small steps leaves the numbers with quotient 0 modulo 3. -/
theorem leaves {y o : Nat} (hy : y < ML) (h1 : 16 ≤ o) (h2 : o < 32) (ho : o % 2 = 1) : ∃ i, i ≤ 4 ∧ (y + i * (268435456 * o)) % ML / SL % 3 ≠ 0 := by
  refine Classical.byContradiction fun hn => ?_
  have hp : ∀ i, i ≤ 4 → (y + i * (268435456 * o)) % ML / SL % 3 = 0 := fun i hi => Classical.byContradiction fun h => hn ⟨i, hi, h⟩
  clear hn
  have hM : ML = 144115188075855872 := rfl
  have hS : SL = 8589934592 := rfl
  rw [hM, hS] at hp
  rw [hM] at hy
  obtain ⟨D, hD⟩ : ∃ D, 268435456 * o = D := ⟨_, rfl⟩
  rw [hD] at hp
  have k1 : 4294967296 ≤ D := by omega
  have k2 : D < 8589934592 := by omega
  have a0 := hp 0 (by omega)
  have a1 := hp 1 (by omega)
  have a2 := hp 2 (by omega)
  have a3 := hp 3 (by omega)
  have a4 := hp 4 (by omega)
  rw [Nat.zero_mul, Nat.add_zero, Nat.mod_eq_of_lt hy] at a0
  rw [Nat.one_mul] at a1
  clear hp hM hS hD
  have w1 := wraps k1 k2 a0 a1 a2
  obtain ⟨z, hz⟩ : ∃ z, y + 2 * D = z + 144115188075855872 := ⟨y + 2 * D - 144115188075855872, by omega⟩
  have z1 : z < 17179869184 := by omega
  have ez : z % 144115188075855872 = z := Nat.mod_eq_of_lt (by omega)
  rw [hz, Nat.add_mod_right, ez] at a2
  rw [show y + 3 * D = (z + D) + 144115188075855872 by omega, Nat.add_mod_right] at a3
  rw [show y + 4 * D = (z + 2 * D) + 144115188075855872 by omega, Nat.add_mod_right] at a4
  have w2 := wraps k1 k2 a2 a3 a4
  omega
/-- No state starts 2^29 passed tests four places apart. -/
theorem no_run {x : Nat} (hx : x < ML) : ∃ m, m < 536870912 ∧ it x (4 * m) / SL % 3 ≠ 0 := by
  obtain ⟨n, o, hn, ho, h1, h2, h3⟩ := small_step hx
  have hy := it_lt hx (4 * n)
  obtain ⟨i, hi, h⟩ := leaves hy h1 h2 h3
  refine ⟨n + 67108864 * i, by omega, ?_⟩
  have hM : ML = 144115188075855872 := rfl
  have e : it x (4 * (n + 67108864 * i)) = (it x (4 * n) + i * (268435456 * o)) % ML := by
    rw [show 4 * (n + 67108864 * i) = 4 * n + 268435456 * i by omega, it_add, it_ap hy]
    obtain ⟨v, hv⟩ : ∃ v, 4 * UE * it x (4 * n) + OE = v := ⟨_, rfl⟩
    rw [hv] at ho ⊢
    obtain ⟨q, hq⟩ : ∃ q, v = o + 536870912 * q := ⟨v / 536870912, by omega⟩
    have e3 : it x (4 * n) + i * (268435456 * v) = it x (4 * n) + i * (268435456 * o) + ML * (i * q) := by
      rw [hM, hq]; grind
    rw [e3, Nat.add_mul_mod_self_left]
  rw [e]
  exact h
end Zl
namespace Zl
/-- After c rounds, each passed, the walk is at q and the text has T bytes; the first one had at most S. -/
def TrailS (x S c q T : Nat) : Prop := ∃ p z : Nat → Nat, p 0 = 0 ∧ p c = q ∧ z 0 ≤ S ∧ z c = T ∧ ∀ i, i < c → it x (p i) / SL % 3 = 0 ∧ (z i = 0 → p (i + 1) = p i + 2) ∧ (z i ≠ 0 → p (i + 1) = p i + 4) ∧ z (i + 1) ≤ z i + 1 ∧ z i ≤ z (i + 1) + 1
theorem TrailS.start {x S T : Nat} (h : T ≤ S) : TrailS x S 0 0 T := ⟨fun _ => 0, fun _ => T, rfl, rfl, h, rfl, fun i hi => absurd hi (Nat.not_lt_zero i)⟩
theorem TrailS.step {x S c q T q' T' : Nat} (h : TrailS x S c q T) (hz : it x q / SL % 3 = 0) (h0 : T = 0 → q' = q + 2) (h1 : T ≠ 0 → q' = q + 4) (a : T' ≤ T + 1) (b : T ≤ T' + 1) : TrailS x S (c + 1) q' T' := by
  obtain ⟨p, z, p0, pc, z0, zc, hp⟩ := h
  refine ⟨fun i => if i ≤ c then p i else q', fun i => if i ≤ c then z i else T', by simp [p0], if_neg (by omega), by simpa using z0, if_neg (by omega), fun i hi => ?_⟩
  by_cases hic : i < c
  · have e1 : i ≤ c := by omega
    have e2 : i + 1 ≤ c := by omega
    simp only [e1, e2, if_true]
    exact hp i hic
  · obtain rfl : i = c := by omega
    have e2 : ¬ i + 1 ≤ i := by omega
    simp only [Nat.le_refl, if_true, e2, if_false]
    rw [pc, zc]
    exact ⟨hz, h0, h1, a, b⟩
theorem TrailS.trail {x S c q T : Nat} (h : TrailS x S c q T) : Trail x c q := by
  obtain ⟨p, z, p0, pc, z0, zc, hp⟩ := h
  refine ⟨p, p0, pc, fun i hi => ⟨?_, (hp i hi).1⟩⟩
  by_cases e : z i = 0
  · exact .inl ((hp i hi).2.1 e)
  · exact .inr ((hp i hi).2.2.1 e)
/-- The text stays short. -/
theorem TrailS.size {x S c q T : Nat} (hx : x < ML) (h : TrailS x S c q T) : T ≤ S + 536870912 := by
  obtain ⟨p, z, p0, pc, z0, zc, hp⟩ := h
  refine Nat.le_of_not_lt fun hlt => ?_
  have up : ∀ i, i ≤ c → z i ≤ z 0 + i := by
    intro i
    induction i with
    | zero => intro _; omega
    | succ i ih =>
      intro hi
      have := ih (by omega)
      have := (hp i (by omega)).2.2.2.1
      omega
  have hc := up c (Nat.le_refl _)
  obtain ⟨i0, hi0⟩ : ∃ i0, c = i0 + 536870912 := ⟨c - 536870912, by omega⟩
  have low : ∀ d, d ≤ 536870912 → T ≤ z (c - d) + d := by
    intro d
    induction d with
    | zero => intro _; rw [Nat.sub_zero, zc]; omega
    | succ d ih =>
      intro hd
      have a := ih (by omega)
      have b := (hp (c - (d + 1)) (by omega)).2.2.2.1
      rw [show c - (d + 1) + 1 = c - d by omega] at b
      omega
  have pos : ∀ m, m < 536870912 → p (i0 + m) = p i0 + 4 * m := by
    intro m
    induction m with
    | zero => intro _; rfl
    | succ m ih =>
      intro hm
      have a := ih (by omega)
      have l := low (536870912 - m) (by omega)
      rw [show c - (536870912 - m) = i0 + m by omega] at l
      have b := (hp (i0 + m) (by omega)).2.2.1 (by omega)
      rw [show i0 + (m + 1) = i0 + m + 1 by omega, b, a]
      omega
  obtain ⟨m, hm, hne⟩ := no_run (it_lt hx (p i0))
  rw [← it_add, ← pos m hm] at hne
  exact hne (hp (i0 + m) (by omega)).1
/-- One more round: it is counted, and the text stays short. -/
theorem TrailS.go {x S c q T q' T' : Nat} (hx : x < ML) (h : TrailS x S c q T) (hc : c ≤ KB) (hz : it x q / SL % 3 = 0) (h0 : T = 0 → q' = q + 2) (h1 : T ≠ 0 → q' = q + 4) (a : T' ≤ T + 1) (b : T ≤ T' + 1) : TrailS x S (c + 1) q' T' ∧ c + 1 ≤ KB ∧ T' ≤ S + 536870912 := by
  have h2 := h.step hz h0 h1 a b
  exact ⟨h2, trail_le hx h2.trail (by unfold KB at hc; omega), h2.size hx⟩
end Zl
end Go.Proofs.YtonehmjoolflfaaGreatDoor
