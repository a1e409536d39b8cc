
/- Ranks modulo a small prime by an elimination on packed numbers, plain: what the kernel computes is the rank. -/
import Derived.Test.YtnhgflmmfppmnaaCD5
namespace Go.Proofs.Ytnhgflmmfppmnaa
open Go Go.RowKit Grp Rk
set_option linter.unusedSimpArgs false
set_option linter.unusedVariables false
namespace Pk
def pack : List Nat → Nat
  | [] => 0
  | a :: r => a + 65536 * pack r
theorem pack_digit : ∀ (l : List Nat) (j : Nat), (∀ a ∈ l, a < 65536) → pack l / 65536 ^ j % 65536 = l.getD j 0 := by
  intro l
  induction l with
  | nil => intro j _; simp [pack]
  | cons a r ih =>
    intro j h
    have ha := h a (by simp)
    cases j with
    | zero =>
      show (a + 65536 * pack r) / 65536 ^ 0 % 65536 = a
      rw [Nat.pow_zero, Nat.div_one]; omega
    | succ j =>
      have := ih j fun x hx => h x (by simp [hx])
      show (a + 65536 * pack r) / 65536 ^ (j + 1) % 65536 = _
      have e : (a + 65536 * pack r) / 65536 ^ (j + 1) = pack r / 65536 ^ j := by
        rw [Nat.pow_succ, Nat.mul_comm (65536 ^ j) 65536, ← Nat.div_div_eq_div_mul]
        congr 1; omega
      rw [e, this]
      rfl
theorem pack_add (c : Nat) : ∀ (a b : List Nat), a.length = b.length → pack a + c * pack b = pack (List.zipWith (fun x y => x + c * y) a b) := by
  intro a
  induction a with
  | nil => intro b h; cases b with
    | nil => simp [pack]
    | cons => simp at h
  | cons x r ih =>
    intro b h
    cases b with
    | nil => simp at h
    | cons y t =>
      have := ih t (by simpa using h)
      show x + 65536 * pack r + c * (y + 65536 * pack t) = x + c * y + 65536 * pack (List.zipWith _ r t)
      rw [← this, Nat.mul_add, Nat.mul_add, Nat.mul_left_comm]; omega
def force {α : Type} (r : Nat) (k : Nat → α) : α := match r with
  | 0 => k 0
  | n + 1 => k (n + 1)
theorem force_eq {α : Type} (r : Nat) (k : Nat → α) : force r k = k r := by cases r <;> rfl
noncomputable def forceL {α β : Type} (l : List α) : (List α → β) → β := List.rec (motive := fun _ => (List α → β) → β) (fun k => k []) (fun a _ ih k => ih fun t' => k (a :: t')) l
theorem forceL_eq {α β : Type} : ∀ (l : List α) (k : List α → β), forceL l k = k l := by
  intro l
  induction l with
  | nil => intro k; rfl
  | cons a t ih => intro k; exact ih fun t' => k (a :: t')
noncomputable def redE (p : Nat) (st : List (Nat × Nat)) : Nat → Nat := List.rec (motive := fun _ => Nat → Nat) (fun r => r) (fun a _ ih r => Nat.rec (motive := fun _ => Nat) (ih r) (fun d _ => force (r + (p - (d + 1)) * a.2) ih) (r / 65536 ^ a.1 % 65536 % p)) st
theorem redE_cons (p q N r : Nat) (t : List (Nat × Nat)) : redE p ((q, N) :: t) r = match r / 65536 ^ q % 65536 % p with
    | 0 => redE p t r
    | d + 1 => force (r + (p - (d + 1)) * N) (redE p t) := by
  show Nat.rec (motive := fun _ => Nat) (redE p t r) (fun d _ => force (r + (p - (d + 1)) * N) (redE p t)) (r / 65536 ^ q % 65536 % p) = _
  cases r / 65536 ^ q % 65536 % p <;> rfl
noncomputable def leadE (p r f : Nat) : Nat → Option (Nat × Nat) := Nat.rec (motive := fun _ => Nat → Option (Nat × Nat)) (fun _ => none) (fun _ ih i => Nat.rec (motive := fun _ => Option (Nat × Nat)) (force (i + 1) ih) (fun d _ => some (i, d + 1)) (r / 65536 ^ i % 65536 % p)) f
theorem leadE_succ (p r f i : Nat) : leadE p r (f + 1) i = match r / 65536 ^ i % 65536 % p with
    | 0 => leadE p r f (i + 1)
    | d + 1 => some (i, d + 1) := by
  show Nat.rec (motive := fun _ => Option (Nat × Nat)) (force (i + 1) (leadE p r f)) (fun d _ => some (i, d + 1)) (r / 65536 ^ i % 65536 % p) = _
  cases r / 65536 ^ i % 65536 % p
  · show force (i + 1) (leadE p r f) = _
    rw [force_eq]
  · rfl
def invE (p d : Nat) : Nat := d ^ (p - 2) % p
noncomputable def normE (p c r f : Nat) : Nat → Nat → Nat := Nat.rec (motive := fun _ => Nat → Nat → Nat) (fun _ acc => acc) (fun _ ih i acc => force (i + 1) fun i' => force (acc + r / 65536 ^ i % 65536 * c % p * 65536 ^ i) fun acc' => ih i' acc') f
theorem normE_succ (p c r f i acc : Nat) : normE p c r (f + 1) i acc = normE p c r f (i + 1) (acc + r / 65536 ^ i % 65536 * c % p * 65536 ^ i) := by
  show force (i + 1) (fun i' => force (acc + r / 65536 ^ i % 65536 * c % p * 65536 ^ i) fun acc' => normE p c r f i' acc') = _
  rw [force_eq, force_eq]
noncomputable def stepE (p m : Nat) (st : List (Nat × Nat)) (r : Nat) : Option (List (Nat × Nat)) :=
  force r fun r0 => force (redE p st r0) fun r1 => match leadE p r1 m 2 with
    | none => some st
    | some (q, d) => if (Nat.beq (invE p d * d % p) 1 && Nat.blt st.length 200) = true then force q fun q' => force (normE p (invE p d) r1 m 2 (r1 % 4294967296 * 31 % 19997 + 1)) fun N => forceL (st ++ [(q', N)]) some else none
noncomputable def elimE (p m : Nat) (rs : List Nat) : List (Nat × Nat) → Option (List (Nat × Nat)) := List.rec (motive := fun _ => List (Nat × Nat) → Option (List (Nat × Nat))) (fun st => some st) (fun r _ ih st => Option.rec (motive := fun _ => Option (List (Nat × Nat))) none ih (stepE p m st r)) rs
theorem elimE_nil (p m : Nat) (st : List (Nat × Nat)) : elimE p m [] st = some st := rfl
theorem elimE_cons (p m r : Nat) (t : List Nat) (st : List (Nat × Nat)) : elimE p m (r :: t) st = match stepE p m st r with
    | none => none
    | some st' => elimE p m t st' := by
  show Option.rec (motive := fun _ => Option (List (Nat × Nat))) none (elimE p m t) (stepE p m st r) = _
  cases stepE p m st r <;> rfl
/-- The rank that was computed, if the computation went through. -/
noncomputable def rankE (p m : Nat) (rows : List Nat) : Option Nat := (elimE p m rows []).map List.length
/-- The number r holds the list L, modulo p, its digits at most b; below lies a tag of two digits. -/
def Rep (p m b : Nat) (r : Nat) (L : List Int) : Prop := ∃ (t : Nat) (l : List Nat), r = t + 4294967296 * pack l ∧ t ≤ 20000 * (b + 1) ∧ l.length = m ∧ (∀ a ∈ l, a ≤ b) ∧ L.length = m ∧ ∀ j, j < m → gi L j = ((l.getD j 0 % p : Nat) : Int)
theorem tag_digit {t P j : Nat} (ht : t < 4294967296) : (t + 4294967296 * P) / 65536 ^ (j + 2) = P / 65536 ^ j := by
  have e : 65536 ^ (j + 2) = 4294967296 * 65536 ^ j := by rw [Nat.pow_add, Nat.mul_comm]
  rw [e, ← Nat.div_div_eq_div_mul]
  congr 1; omega
theorem getD_mem {l : List Nat} {j : Nat} (h : j < l.length) : l.getD j 0 ∈ l := by
  rw [List.getD_eq_getElem?_getD, List.getElem?_eq_getElem h]; exact List.getElem_mem h
section
variable {p m b : Nat} {r : Nat} {L : List Int}
theorem Rep.digit (h : Rep p m b r L) (hb : b < 65536) {j : Nat} (hj : j < m) : ((r / 65536 ^ (j + 2) % 65536 % p : Nat) : Int) = gi L j := by
  obtain ⟨t, l, rfl, h0, h1, h2, h3, h4⟩ := h
  rw [tag_digit (by omega), pack_digit l j fun a ha => by have := h2 a ha; omega, h4 j hj]
theorem Rep.in01 (h : Rep p m b r L) (hp : 2 ≤ p) : In01 p m L := by
  obtain ⟨t, l, rfl, h0, h1, h2, h3, h4⟩ := h
  refine ⟨h3, fun j hj => ?_⟩
  rw [h4 j hj]
  have := Nat.mod_lt (l.getD j 0) (show 0 < p by omega)
  omega
theorem Rep.more {b' : Nat} (h : Rep p m b r L) (hb : b ≤ b') : Rep p m b' r L := by
  obtain ⟨t, l, h0, h5, h1, h2, h3, h4⟩ := h
  exact ⟨t, l, h0, by omega, h1, fun a ha => by have := h2 a ha; omega, h3, h4⟩
theorem Rep.addmul {N : Nat} {X : List Int} {d : Nat} (hp : 2 ≤ p) (h : Rep p m b r L) (hN : Rep p m (p - 1) N X) (hd : d ≤ p) : Rep p m (b + p * p) (r + (p - d) * N) (lessL p L X d) := by
  obtain ⟨t, l, rfl, h0, h1, h2, h3, h4⟩ := h
  obtain ⟨s, x, rfl, k0, k1, k2, k3, k4⟩ := hN
  refine ⟨t + (p - d) * s, List.zipWith (fun a c => a + (p - d) * c) l x, ?_, ?_, by simp [h1, k1], fun a ha => ?_, by simp [lessL, h3], fun j hj => ?_⟩
  · rw [← pack_add _ _ _ (by omega), Nat.mul_add, Nat.mul_add, Nat.mul_left_comm (p - d)]; omega
  · have e1 : (p - d) * s ≤ p * (20000 * (p - 1 + 1)) := Nat.mul_le_mul (by omega) k0
    rw [show p - 1 + 1 = p by omega, Nat.mul_left_comm] at e1
    rw [show 20000 * (b + p * p + 1) = 20000 * (b + 1) + 20000 * (p * p) by omega]; omega
  · obtain ⟨i, hi, rfl⟩ := List.getElem_of_mem ha
    simp only [List.getElem_zipWith]
    have e1 := h2 _ (List.getElem_mem (l := l) (n := i) (by simp at hi; omega))
    have e2 := k2 _ (List.getElem_mem (l := x) (n := i) (by simp at hi; omega))
    have e3 : (p - d) * x[i]'(by simp at hi; omega) ≤ p * p := Nat.mul_le_mul (by omega) (by omega)
    omega
  · have hz : (List.zipWith (fun a c => a + (p - d) * c) l x).getD j 0 = l.getD j 0 + (p - d) * x.getD j 0 := by
      simp only [List.getD_eq_getElem?_getD]
      rw [List.getElem?_zipWith, List.getElem?_eq_getElem (by omega), List.getElem?_eq_getElem (by omega)]
      rfl
    rw [lessL_gi (by omega), h4 j hj, k4 j hj, hz]
    have e2 := k2 _ (getD_mem (l := x) (j := j) (by omega))
    rw [Nat.mod_eq_of_lt (show x.getD j 0 < p by omega), show ((p : Nat) : Int) - (d : Nat) = ((p - d : Nat) : Int) by omega]
    norm_cast
    rw [Nat.mod_add_mod]
end
/-- The packed state holds the rows and their places. -/
def StE (p m : Nat) (st : List (Nat × Nat)) (rows : List (List Int)) (piv : List Nat) : Prop := st.length = rows.length ∧ ∀ i q N, st[i]? = some (q, N) → q = piv.getD i 0 + 2 ∧ Rep p m (p - 1) N (rows.getD i [])
theorem redE_ok {p m : Nat} (hp : 2 ≤ p) (hp7 : p ≤ 7) {G : Vec → Prop} {rows : List (List Int)} {piv : List Nat} (hS : St p m G rows piv) {st : List (Nat × Nat)} (hE : StE p m st rows piv) (hl : rows.length ≤ 200) {orig : List Int} :
    ∀ (d k r : Nat) (L : List Int), d + k = rows.length → Red p m rows piv orig k L → Rep p m (100 + 49 * k) r L → ∃ L', Red p m rows piv orig rows.length L' ∧ Rep p m (100 + 49 * rows.length) (redE p (st.drop k) r) L' := by
  intro d
  induction d with
  | zero =>
    intro k r L hk hR hr
    obtain rfl : k = rows.length := by omega
    rw [List.drop_of_length_le (by rw [hE.1]; exact Nat.le_refl _)]
    exact ⟨L, hR, hr⟩
  | succ d ih =>
    intro k r L hk hR hr
    have hkl : k < rows.length := by omega
    have hks : k < st.length := by rw [hE.1]; exact hkl
    obtain ⟨⟨q, N⟩, hqN⟩ : ∃ a, st[k]? = some a := ⟨_, List.getElem?_eq_getElem hks⟩
    obtain ⟨hq, hN⟩ := hE.2 k q N hqN
    have hdrop : st.drop k = (q, N) :: st.drop (k + 1) := by
      rw [List.drop_eq_getElem_cons hks]
      rw [List.getElem?_eq_getElem hks] at hqN
      rw [Option.some.inj hqN]
    have hdig := hr.digit (by omega) (hS.lt k hkl)
    rw [← hq] at hdig
    rw [hdrop, redE_cons]
    cases hd : r / 65536 ^ q % 65536 % p with
    | zero =>
      rw [hd] at hdig
      exact ih (k + 1) r L (by omega) (hR.skip (by rw [← hdig]; rfl)) (hr.more (by omega))
    | succ e =>
      rw [hd] at hdig
      have hlt : e + 1 < p := by rw [← hd]; exact Nat.mod_lt _ (by omega)
      simp only [force_eq]
      have h1 := hR.step (by omega) hS hkl
      rw [← hdig] at h1
      have h2 := (hr.addmul hp hN (d := e + 1) (by omega)).more (b' := 100 + 49 * (k + 1)) (by have : p * p ≤ 7 * 7 := Nat.mul_le_mul hp7 hp7; omega)
      exact ih (k + 1) _ _ (by omega) h1 h2
theorem leadE_none {p r : Nat} : ∀ (f i : Nat), leadE p r f i = none → ∀ j, j < f → r / 65536 ^ (i + j) % 65536 % p = 0 := by
  intro f
  induction f with
  | zero => intro i _ j hj; omega
  | succ f ih =>
    intro i h j hj
    rw [leadE_succ] at h
    cases hd : r / 65536 ^ i % 65536 % p with
    | zero =>
      rw [hd] at h
      cases j with
      | zero => exact hd
      | succ j =>
        have := ih _ h j (by omega)
        rwa [show i + 1 + j = i + (j + 1) by omega] at this
    | succ e => rw [hd] at h; cases h
theorem leadE_some {p r : Nat} : ∀ (f i q d : Nat), leadE p r f i = some (q, d) → ∃ j, j < f ∧ q = i + j ∧ d = r / 65536 ^ (i + j) % 65536 % p ∧ d ≠ 0 ∧ ∀ j', j' < j → r / 65536 ^ (i + j') % 65536 % p = 0 := by
  intro f
  induction f with
  | zero => intro i q d h; cases h
  | succ f ih =>
    intro i q d h
    rw [leadE_succ] at h
    cases hd : r / 65536 ^ i % 65536 % p with
    | zero =>
      rw [hd] at h
      obtain ⟨j, h1, h2, h3, h4, h5⟩ := ih _ _ _ h
      refine ⟨j + 1, by omega, by omega, by rw [h3, show i + 1 + j = i + (j + 1) by omega], h4, fun j' hj' => ?_⟩
      cases j' with
      | zero => exact hd
      | succ j' => rw [show i + (j' + 1) = i + 1 + j' by omega]; exact h5 j' (by omega)
    | succ e =>
      rw [hd] at h
      injection h with h
      injection h with h1 h2
      exact ⟨0, by omega, h1.symm, by rw [Nat.add_zero, hd, h2], by omega, fun j' hj' => absurd hj' (by omega)⟩
theorem normE_rep {p c r : Nat} (hp : 2 ≤ p) : ∀ (f i acc : Nat), ∃ l : List Nat, normE p c r f i acc = acc + 65536 ^ i * pack l ∧ l.length = f ∧ (∀ a ∈ l, a ≤ p - 1) ∧ ∀ j, j < f → l.getD j 0 = r / 65536 ^ (i + j) % 65536 * c % p := by
  intro f
  induction f with
  | zero => intro i acc; exact ⟨[], by show acc = acc + 65536 ^ i * 0; omega, rfl, by simp, fun j hj => absurd hj (by omega)⟩
  | succ f ih =>
    intro i acc
    obtain ⟨d, hd⟩ : ∃ d, r / 65536 ^ i % 65536 * c % p = d := ⟨_, rfl⟩
    obtain ⟨l, h1, h2, h3, h4⟩ := ih (i + 1) (acc + d * 65536 ^ i)
    refine ⟨d :: l, ?_, by simp [h2], fun a ha => ?_, fun j hj => ?_⟩
    · rw [normE_succ, hd, h1]
      show acc + d * 65536 ^ i + 65536 ^ (i + 1) * pack l = acc + 65536 ^ i * (d + 65536 * pack l)
      rw [Nat.pow_succ, Nat.mul_add, Nat.mul_comm d, Nat.mul_assoc]; omega
    · rcases List.mem_cons.1 ha with rfl | ha
      · have := Nat.mod_lt (r / 65536 ^ i % 65536 * c) (show 0 < p by omega); omega
      · exact h3 a ha
    · cases j with
      | zero => show d = _; rw [Nat.add_zero, hd]
      | succ j =>
        show l.getD j 0 = _
        rw [h4 j (by omega), show i + 1 + j = i + (j + 1) by omega]
theorem stepE_ok {p m : Nat} (hp : 2 ≤ p) (hp7 : p ≤ 7) {G : Vec → Prop} {rows : List (List Int)} {piv : List Nat} (hS : St p m G rows piv) {st st' : List (Nat × Nat)} (hE : StE p m st rows piv) (hl : rows.length ≤ 200) {orig : List Int} {r : Nat} (hr : Rep p m 100 r orig)
    (h : stepE p m st r = some st') : ∃ rows' piv', St p m (fun v => G v ∨ v = vec orig) rows' piv' ∧ StE p m st' rows' piv' ∧ rows'.length ≤ 200 := by
  obtain ⟨L, hR, hRp⟩ := redE_ok hp hp7 hS hE hl rows.length 0 r orig (by omega) (Red.start (hr.in01 hp)) (hr.more (by omega))
  rw [List.drop_zero] at hRp
  unfold stepE at h
  rw [force_eq, force_eq] at h
  obtain ⟨r1, hr1⟩ : ∃ r1, redE p st r = r1 := ⟨_, rfl⟩
  rw [hr1] at h hRp
  have hdg : ∀ j, j < m → ((r1 / 65536 ^ (j + 2) % 65536 % p : Nat) : Int) = gi L j := fun j hj => hRp.digit (by omega) hj
  cases hld : leadE p r1 m 2 with
  | none =>
    rw [hld] at h
    injection h with h
    subst h
    exact ⟨rows, piv, hS.zero hR fun j hj => by rw [← hdg j hj, Nat.add_comm j 2, leadE_none m 2 hld j hj]; rfl, hE, hl⟩
  | some qd =>
    obtain ⟨q, d⟩ := qd
    rw [hld] at h
    simp only at h
    split at h
    · rename_i hc
      rw [Bool.and_eq_true, Nat.beq_eq] at hc
      have hl2 : st.length < 200 := by have := hc.2; rwa [Nat.blt_eq] at this
      rw [force_eq, force_eq, forceL_eq] at h
      injection h with h
      subst h
      obtain ⟨at_, ha, hq, hd, hd0, hlow⟩ := leadE_some m 2 q d hld
      rw [Nat.add_comm] at hq hd
      replace hlow : ∀ j', j' < at_ → r1 / 65536 ^ (j' + 2) % 65536 % p = 0 := fun j' hj' => by rw [Nat.add_comm]; exact hlow j' hj'
      obtain ⟨tg, htg⟩ : ∃ tg, r1 % 4294967296 * 31 % 19997 + 1 = tg := ⟨_, rfl⟩
      have htl : tg ≤ 20000 := by omega
      rw [htg]
      obtain ⟨l, n1, n2, n3, n4⟩ := normE_rep (c := invE p d) (r := r1) hp m 2 tg
      replace n4 : ∀ j, j < m → l.getD j 0 = r1 / 65536 ^ (j + 2) % 65536 * invE p d % p := fun j hj => by rw [Nat.add_comm j 2]; exact n4 j hj
      obtain ⟨c, hcc⟩ : ∃ c, invE p d = c := ⟨_, rfl⟩
      rw [hcc] at n1 n4 hc ⊢
      have hNl : ∀ j, j < m → gi (l.map fun (a : Nat) => (a : Int)) j = ((c * (r1 / 65536 ^ (j + 2) % 65536) % p : Nat) : Int) := fun j hj => by
        unfold gi
        rw [List.getD_eq_getElem?_getD, List.getElem?_map]
        have := n4 j hj
        rw [List.getD_eq_getElem?_getD, List.getElem?_eq_getElem (by omega)] at this
        rw [List.getElem?_eq_getElem (by omega)]
        simp only [Option.map_some, Option.getD_some] at this ⊢
        rw [this, Nat.mul_comm]
      have hNe : ∀ j, j < m → gi (l.map fun (a : Nat) => (a : Int)) j = (c : Int) * gi L j % p := fun j hj => by
        rw [hNl j hj, ← hdg j hj]
        norm_cast
        rw [Nat.mul_mod_mod]
      have hNrep : Rep p m (p - 1) (normE p c r1 m 2 tg) (l.map fun (a : Nat) => (a : Int)) := ⟨tg, l, n1, by omega, n2, n3, by simp [n2], fun j hj => by
        rw [hNl j hj]
        have h9 := n4 j hj
        rw [h9, Nat.mul_comm, Nat.mod_mod]⟩
      have hinv : (c : Int) * gi L at_ % p = 1 := by
        rw [← hdg at_ ha, ← hd]
        norm_cast
        exact hc.1
      have hM := hS.more (by omega) hR ha (fun j hj => by rw [← hdg j (by omega), hlow j hj]; rfl) hinv (hNrep.in01 hp) hNe
      refine ⟨_, _, hM, ⟨by simp [hE.1], fun i q' N' hi => ?_⟩, by simp; rw [← hE.1]; omega⟩
      have hlen := hS.len
      rcases Nat.lt_or_ge i st.length with hi2 | hi2
      · rw [List.getElem?_append_left hi2] at hi
        have he1 := hE.1
        rw [getD_app, getD_app, if_pos (by omega), if_pos (by omega)]
        exact hE.2 i q' N' hi
      · have hi3 : i = st.length := by
          have := (List.getElem?_eq_some_iff.1 hi).1
          simp at this; omega
        subst hi3
        rw [List.getElem?_append_right (Nat.le_refl _), Nat.sub_self] at hi
        simp only [List.getElem?_cons_zero, Option.some.injEq, Prod.mk.injEq] at hi
        have he1 := hE.1
        have g1 : (piv ++ [at_]).getD st.length 0 = at_ := by rw [getD_app, if_neg (by omega), if_pos (by omega)]
        have g2 : (rows ++ [l.map fun (a : Nat) => (a : Int)]).getD st.length [] = l.map fun (a : Nat) => (a : Int) := by rw [getD_app, if_neg (by omega), if_pos (by omega)]
        rw [g1, g2]
        exact ⟨by rw [← hi.1, hq], by rw [← hi.2]; exact hNrep⟩
    · cases h
theorem elimE_ok {p m : Nat} (hp : 2 ≤ p) (hp7 : p ≤ 7) : ∀ (rs : List Nat) (xs : List (List Int)) {G : Vec → Prop} {rows : List (List Int)} {piv : List Nat} {st st' : List (Nat × Nat)}, St p m G rows piv → StE p m st rows piv → rows.length ≤ 200 → rs.length = xs.length →
    (∀ (i r : Nat) (x : List Int), rs[i]? = some r → xs[i]? = some x → Rep p m 100 r x) → elimE p m rs st = some st' → ∃ rows' piv', St p m (fun v => G v ∨ ∃ x, x ∈ xs ∧ v = vec x) rows' piv' ∧ rows'.length = st'.length := by
  intro rs
  induction rs with
  | nil =>
    intro xs G rows piv st st' hS hE hl hlen _ h
    cases xs with
    | cons => simp at hlen
    | nil =>
      injection h with h
      subst h
      refine ⟨rows, piv, ?_, hE.1.symm⟩
      have e : (fun v => G v ∨ ∃ x, x ∈ ([] : List (List Int)) ∧ v = vec x) = G := by funext v; simp
      rw [e]; exact hS
  | cons r rs ih =>
    intro xs G rows piv st st' hS hE hl hlen hrep h
    cases xs with
    | nil => simp at hlen
    | cons x xs =>
      rw [elimE_cons] at h
      cases hs : stepE p m st r with
      | none => rw [hs] at h; cases h
      | some st1 =>
        rw [hs] at h
        obtain ⟨rows1, piv1, h1, h2, h3⟩ := stepE_ok hp hp7 hS hE hl (hrep 0 r x rfl rfl) hs
        obtain ⟨rows2, piv2, h4, h5⟩ := ih xs h1 h2 h3 (by simpa using hlen) (fun i r' x' hr hx => hrep (i + 1) r' x' hr hx) h
        refine ⟨rows2, piv2, ?_, h5⟩
        have e : (fun v => (G v ∨ v = vec x) ∨ ∃ y, y ∈ xs ∧ v = vec y) = (fun v => G v ∨ ∃ y, y ∈ x :: xs ∧ v = vec y) := by
          funext v
          simp only [List.mem_cons, exists_eq_or_imp, or_assoc]
        rw [← e]; exact h4
theorem rankE_ok {p m k : Nat} (hp : 2 ≤ p) (hp7 : p ≤ 7) (rs : List Nat) (xs : List (List Int)) (hlen : rs.length = xs.length) (hrep : ∀ (i r : Nat) (x : List Int), rs[i]? = some r → xs[i]? = some x → Rep p m 100 r x) (h : rankE p m rs = some k) :
    HasRk p m (fun v => ∃ x, x ∈ xs ∧ v = vec x) k := by
  unfold rankE at h
  rw [Option.map_eq_some_iff] at h
  obtain ⟨st', h1, h2⟩ := h
  obtain ⟨rows, piv, h3, h4⟩ := elimE_ok hp hp7 rs xs (St.start (p := p) (m := m)) (show StE p m [] [] [] from ⟨rfl, fun i q N h => by simp at h⟩) (by simp) hlen hrep h1
  have e : (fun v => False ∨ ∃ x, x ∈ xs ∧ v = vec x) = (fun v => ∃ x, x ∈ xs ∧ v = vec x) := by funext v; simp
  rw [e] at h3
  rw [← h2, ← h4]
  exact h3.rk (by omega)
end Pk
end Go.Proofs.Ytnhgflmmfppmnaa
