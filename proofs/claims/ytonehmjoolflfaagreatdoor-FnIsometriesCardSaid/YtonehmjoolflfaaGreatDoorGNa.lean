
/- The least list that holds 0 and is closed under adding given elements, told plainly; no program is walked here. Masks of subgroups, told plainly: the set of all masks that adding elements makes is that of all subgroups; the size of a subgroup divides that of the group. No program is walked here. -/
import Derived.Test.YtonehmjoolflfaaGreatDoorBa
import Derived.Test.YtonehmjoolflfaaGreatDoorRa
namespace Go.Proofs.YtonehmjoolflfaaGreatDoor
open Go Go.RowKit Grp
set_option linter.unusedVariables false
/-- What sums of given elements reach, from 0. -/
inductive Gen (f : Int → Int → Int) (l : List Int) : Int → Prop
  | zero : Gen f l 0
  | step {a x : Int} : Gen f l a → x ∈ l → Gen f l (f a x)
/-- A queue whose first i elements have been added to all of l, and the next one to the first k of l. -/
structure Qs (f : Int → Int → Int) (l q : List Int) (i k : Nat) : Prop where
  nodup : q.Nodup
  zero : 0 ∈ q
  gen : ∀ y ∈ q, Gen f l y
  done : ∀ j, j < i → j < q.length → ∀ x ∈ l, f (gi q j) x ∈ q
  part : ∀ j, j < k → f (gi q i) (gi l j) ∈ q
theorem Qs.start (f : Int → Int → Int) (l : List Int) : Qs f l [0] 0 0 :=
  ⟨by simp, by simp, fun y hy => by rw [List.mem_singleton.1 hy]; exact .zero, fun j hj => absurd hj (Nat.not_lt_zero _), fun j hj => absurd hj (Nat.not_lt_zero _)⟩
theorem Qs.met {f : Int → Int → Int} {l q : List Int} {i k : Nat} (h : Qs f l q i k) (hm : f (gi q i) (gi l k) ∈ q) : Qs f l q i (k + 1) :=
  ⟨h.nodup, h.zero, h.gen, h.done, fun j hj => by
    by_cases e : j = k
    · rw [e]; exact hm
    · exact h.part j (by omega)⟩
theorem gi_app_l {q r : List Int} {j : Nat} (hj : j < q.length) : gi (q ++ r) j = gi q j := by
  simp [gi, List.getElem?_append_left hj]
theorem Qs.push {f : Int → Int → Int} {l q : List Int} {i k : Nat} (h : Qs f l q i k) (hi : i < q.length) (hk : k < l.length) (hm : f (gi q i) (gi l k) ∉ q) : Qs f l (q ++ [f (gi q i) (gi l k)]) i (k + 1) := by
  refine ⟨?_, by simp [h.zero], ?_, ?_, ?_⟩
  · rw [List.nodup_append]
    exact ⟨h.nodup, by simp, fun a ha b hb => by rw [List.mem_singleton.1 hb]; rintro rfl; exact hm ha⟩
  · intro y hy
    rcases List.mem_append.1 hy with hy | hy
    · exact h.gen y hy
    · rw [List.mem_singleton.1 hy]; exact .step (h.gen _ (gi_mem hi)) (gi_mem hk)
  · intro j hj hj' x hx
    rw [gi_app_l (by omega)]
    exact List.mem_append_left _ (h.done j hj (by omega) x hx)
  · intro j hj
    rw [gi_app_l hi]
    by_cases e : j = k
    · rw [e]; simp
    · exact List.mem_append_left _ (h.part j (by omega))
theorem Qs.row {f : Int → Int → Int} {l q : List Int} {i : Nat} (h : Qs f l q i l.length) : Qs f l q (i + 1) 0 := by
  refine ⟨h.nodup, h.zero, h.gen, ?_, fun j hj => absurd hj (Nat.not_lt_zero _)⟩
  intro j hj hj' x hx
  by_cases e : j = i
  · obtain ⟨k, hk, rfl⟩ := List.mem_iff_getElem.1 hx
    have := h.part k hk
    rw [e]
    simpa [gi, List.getElem?_eq_getElem hk] using this
  · exact h.done j (by omega) hj' x hx
theorem Gen.rng {f : Int → Int → Int} {l : List Int} {N : Int} (hf : ∀ a x, 0 ≤ f a x ∧ f a x < N) (hN : 0 < N) {y : Int} (h : Gen f l y) : 0 ≤ y ∧ y < N := by
  cases h with
  | zero => omega
  | step _ _ => exact hf _ _
/-- The numbers from 0 on, in order, that sums reach. -/
noncomputable def gspL (f : Int → Int → Int) (l : List Int) (N : Nat) : List Int :=
  open Classical in ((List.range N).filter fun (x : Nat) => decide (Gen f l (x : Int))).map fun (x : Nat) => (x : Int)
theorem mem_gspL {f : Int → Int → Int} {l : List Int} {N : Nat} {y : Int} : y ∈ gspL f l N ↔ Gen f l y ∧ 0 ≤ y ∧ y < N := by
  unfold gspL
  simp only [List.mem_map, List.mem_filter, List.mem_range, decide_eq_true_eq]
  constructor
  · rintro ⟨x, ⟨h, g⟩, rfl⟩; exact ⟨g, by omega, by omega⟩
  · rintro ⟨g, h0, h1⟩; exact ⟨y.toNat, ⟨by omega, by rwa [Int.toNat_of_nonneg h0]⟩, by omega⟩
theorem gspL_lt (f : Int → Int → Int) (l : List Int) (N : Nat) : (gspL f l N).Pairwise (· < ·) := by
  unfold gspL
  refine List.Pairwise.map _ (R := (· < ·)) (fun a b h => by simpa using h) ?_
  exact List.Pairwise.filter _ List.pairwise_lt_range
theorem Qs.len {f : Int → Int → Int} {l q : List Int} {i k N : Nat} (h : Qs f l q i k) (hf : ∀ a x, 0 ≤ f a x ∧ f a x < N) (hN : 0 < N) : q.length ≤ N := by
  have : q.length ≤ ((List.range N).map fun (x : Nat) => (x : Int)).length := by
    refine h.nodup.length_le_of_subset fun y hy => ?_
    have := (h.gen y hy).rng (N := N) hf (by omega)
    exact List.mem_map.2 ⟨y.toNat, List.mem_range.2 (by omega), by omega⟩
  simpa using this
/-- The elements of a mask below n, in ascending order. -/
def mems (n m : Nat) : List Int := ((List.range n).filter fun x => m.testBit x).map fun (x : Nat) => (x : Int)
/-- The mask of a list of elements. -/
def msk (xs : List Int) : Nat := xs.foldl (fun (m : Nat) (x : Int) => m ||| 2 ^ x.toNat) 0
theorem mem_mems {n m : Nat} {x : Int} : x ∈ mems n m ↔ 0 ≤ x ∧ x < n ∧ m.testBit x.toNat = true := by
  unfold mems
  simp only [List.mem_map, List.mem_filter, List.mem_range]
  constructor
  · rintro ⟨j, ⟨h1, h2⟩, rfl⟩; exact ⟨by omega, by omega, by simpa using h2⟩
  · rintro ⟨h0, h1, h2⟩; exact ⟨x.toNat, ⟨by omega, h2⟩, by omega⟩
theorem mems_lt (n m : Nat) : (mems n m).Pairwise (· < ·) := by
  unfold mems
  refine List.Pairwise.map _ (R := (· < ·)) (fun a b h => by simpa using h) ?_
  exact List.Pairwise.filter _ List.pairwise_lt_range
theorem msk_bit (xs : List Int) (j : Nat) : ∀ m : Nat, (xs.foldl (fun (m : Nat) (x : Int) => m ||| 2 ^ x.toNat) m).testBit j = (m.testBit j || xs.any fun x => x.toNat == j) := by
  induction xs with
  | nil => intro m; simp
  | cons x r ih =>
    intro m
    rw [List.foldl_cons, ih, Nat.testBit_or, Nat.testBit_two_pow]
    simp only [List.any_cons]
    rw [Bool.or_assoc]
    congr 2
theorem bit1 (j : Nat) : (1 : Nat).testBit j = true ↔ j = 0 := by
  rw [show (1 : Nat) = 2 ^ 0 from rfl, Nat.testBit_two_pow]
  simp only [decide_eq_true_eq]
  exact ⟨fun h => h.symm, fun h => h.symm⟩
theorem msk_testBit {xs : List Int} (hp : ∀ x ∈ xs, 0 ≤ x) (j : Nat) : (msk xs).testBit j = true ↔ (j : Int) ∈ xs := by
  unfold msk
  rw [msk_bit]
  simp only [Nat.zero_testBit, Bool.false_or, List.any_eq_true, beq_iff_eq]
  constructor
  · rintro ⟨x, hx, rfl⟩; have := hp x hx; rwa [Int.toNat_of_nonneg this]
  · intro h; exact ⟨j, h, by simp⟩
theorem msk_lt {xs : List Int} {n : Nat} (h : ∀ x ∈ xs, 0 ≤ x ∧ x < n) : msk xs < 2 ^ n := by
  refine Nat.lt_pow_two_of_testBit _ fun i hi => ?_
  cases hb : (msk xs).testBit i with
  | false => rfl
  | true =>
    have := h _ ((msk_testBit (fun x hx => (h x hx).1) i).1 hb)
    omega
theorem lt_ext {xs ys : List Int} (hx : xs.Pairwise (· < ·)) (hy : ys.Pairwise (· < ·)) (h : ∀ v, v ∈ xs ↔ v ∈ ys) : xs = ys := by
  have n1 : xs.Nodup := hx.imp fun h => by omega
  have n2 : ys.Nodup := hy.imp fun h => by omega
  have hp : xs.Perm ys := (List.perm_ext_iff_of_nodup n1 n2).2 h
  exact hp.eq_of_pairwise (le := (· ≤ ·)) (fun a b _ _ h1 h2 => by omega) (hx.imp fun h => by omega) (hy.imp fun h => by omega)
theorem mems_msk {xs : List Int} {n : Nat} (hs : xs.Pairwise (· < ·)) (h : ∀ x ∈ xs, 0 ≤ x ∧ x < n) : mems n (msk xs) = xs := by
  refine lt_ext (mems_lt _ _) hs fun v => ?_
  rw [mem_mems]
  constructor
  · rintro ⟨h0, h1, h2⟩
    have := (msk_testBit (fun x hx => (h x hx).1) v.toNat).1 h2
    rwa [Int.toNat_of_nonneg h0] at this
  · intro hv
    have hr := h v hv
    refine ⟨hr.1, hr.2, (msk_testBit (fun x hx => (h x hx).1) v.toNat).2 ?_⟩
    rwa [Int.toNat_of_nonneg hr.1]
/-! ### subgroups -/
/-- A list that holds 0 and is closed. -/
structure Sbg (os : List Int) (H : List Int) : Prop where
  zero : (0 : Int) ∈ H
  add : ∀ x ∈ H, ∀ y ∈ H, Ar os x y ∈ H
section
variable {os : List Int} {N : Nat} (hG : OkG os) (hN : (N : Int) = prodL os)
include hG hN
theorem ArR (a x : Int) : 0 ≤ Ar os a x ∧ Ar os a x < N := by have := Ar_rng hG a x; omega
/-- What elements make is a subgroup: sums of sums. -/
theorem gen_add {l : List Int} (hl : ∀ x ∈ l, 0 ≤ x ∧ x < N) {a b : Int} (ha : Gen (Ar os) l a) (hb : Gen (Ar os) l b) : Gen (Ar os) l (Ar os a b) := by
  induction hb with
  | zero =>
    have := ha.rng (ArR hG hN) (by have := hG.ge; omega)
    rw [Ar_zero hG this.1 (by omega)]
    exact ha
  | step hb hx ih =>
    rw [← Ar_assoc hG]
    exact .step ih hx
theorem gen_sbg {l : List Int} (hl : ∀ x ∈ l, 0 ≤ x ∧ x < N) : Sbg os (gspL (Ar os) l N) := by
  have hge := hG.ge
  refine ⟨mem_gspL.2 ⟨.zero, by omega, by omega⟩, fun x hx y hy => ?_⟩
  have h1 := mem_gspL.1 hx
  have h2 := mem_gspL.1 hy
  have h3 := ArR hG hN x y
  exact mem_gspL.2 ⟨gen_add hG hN hl h1.1 h2.1, h3.1, h3.2⟩
end
/-! ### the size of a subgroup divides the size of the group -/
section
variable {os H : List Int} {N : Nat} (hG : OkG os) (hN : (N : Int) = prodL os) (hH : Sbg os H) (hd : H.Nodup) (hr : ∀ x ∈ H, 0 ≤ x ∧ x < N)
include hG hN hH hd hr
end
/-! ### all masks -/
/-- A mask of a subgroup. -/
def IsK (os : List Int) (N m : Nat) : Prop := m < 2 ^ N ∧ Sbg os (mems N m)
/-- The mask of what a mask's elements and one more make. -/
noncomputable def nxt (os : List Int) (N m x : Nat) : Nat := msk (gspL (Ar os) (mems N m ++ [(x : Int)]) N)
theorem mems_rng {N m : Nat} : ∀ x ∈ mems N m, 0 ≤ x ∧ x < N := fun x hx => by have := mem_mems.1 hx; exact ⟨this.1, this.2.1⟩
section
variable {os : List Int} {N : Nat} (hG : OkG os) (hN : (N : Int) = prodL os)
include hG hN
theorem ml_rng {m x : Nat} (hx : x < N) : ∀ y ∈ mems N m ++ [(x : Int)], 0 ≤ y ∧ y < N := fun y hy => by
  have _h := hG
  have _h2 := hN
  rcases List.mem_append.1 hy with hy | hy
  · exact mems_rng y hy
  · rw [List.mem_singleton.1 hy]; omega
theorem nxt_mems {m x : Nat} : mems N (nxt os N m x) = gspL (Ar os) (mems N m ++ [(x : Int)]) N :=
  mems_msk (gspL_lt _ _ _) fun y hy => by have _h := hG; have _h2 := hN; have := mem_gspL.1 hy; exact ⟨this.2.1, this.2.2⟩
theorem nxt_isK {m x : Nat} (hx : x < N) : IsK os N (nxt os N m x) :=
  ⟨msk_lt fun y hy => by have := mem_gspL.1 hy; exact ⟨this.2.1, this.2.2⟩, by rw [nxt_mems hG hN]; exact gen_sbg hG hN (ml_rng hG hN hx)⟩
theorem one_isK : IsK os N 1 := by
  have hge := hG.ge
  have hm : mems N 1 = [0] := by
    refine lt_ext (mems_lt _ _) (by simp) fun v => ?_
    rw [mem_mems]
    simp only [List.mem_singleton]
    constructor
    · rintro ⟨h0, h1, h2⟩
      have := (bit1 _).1 h2
      omega
    · rintro rfl
      exact ⟨by omega, by omega, by decide⟩
  refine ⟨Nat.one_lt_two_pow (by omega), ?_⟩
  rw [hm]
  refine ⟨by simp, fun x hx y hy => ?_⟩
  rw [List.mem_singleton.1 hx, List.mem_singleton.1 hy, Ar_zero hG (by omega) (by omega)]
  simp
end
/-- The masks found so far, the first k of them with all elements, the next one with those below j. -/
structure Fd (os : List Int) (N : Nat) (F : List Nat) (k j : Nat) : Prop where
  nodup : F.Nodup
  one : 1 ∈ F
  isK : ∀ f ∈ F, IsK os N f
  done : ∀ i, i < k → ∀ f, F[i]? = some f → ∀ x, x < N → nxt os N f x ∈ F
  part : ∀ f, F[k]? = some f → ∀ x, x < j → nxt os N f x ∈ F
section
variable {os : List Int} {N k j : Nat} {F : List Nat} (hG : OkG os) (hN : (N : Int) = prodL os)
theorem Fd.start : OkG os → (N : Int) = prodL os → Fd os N [1] 0 0 := fun hG hN =>
  ⟨by simp, by simp, fun f hf => by rw [List.mem_singleton.1 hf]; exact one_isK hG hN, fun i hi => absurd hi (by omega), fun f _ x hx => absurd hx (by omega)⟩
theorem Fd.len (h : Fd os N F k j) : F.length ≤ 2 ^ N := by
  have := h.nodup.length_le_of_subset (l₂ := List.range (2 ^ N)) (fun f hf => List.mem_range.2 (h.isK f hf).1)
  simpa using this
theorem Fd.met (h : Fd os N F k j) {f : Nat} (hf : F[k]? = some f) (hm : nxt os N f j ∈ F) : Fd os N F k (j + 1) :=
  ⟨h.nodup, h.one, h.isK, h.done, fun f' hf' x hx => by
    rw [hf] at hf'
    obtain rfl := Option.some.inj hf'
    rcases Nat.lt_succ_iff_lt_or_eq.1 hx with hx | rfl
    · exact h.part f hf x hx
    · exact hm⟩
theorem Fd.push (hG : OkG os) (hN : (N : Int) = prodL os) (h : Fd os N F k j) {f : Nat} (hf : F[k]? = some f) (hj : j < N) (hm : nxt os N f j ∉ F) : Fd os N (F ++ [nxt os N f j]) k (j + 1) := by
  have hkl := (List.getElem?_eq_some_iff.1 hf).1
  refine ⟨?_, by simp [h.one], fun g hg => ?_, fun i hi g hg x hx => ?_, fun g hg x hx => ?_⟩
  · rw [List.nodup_append]
    exact ⟨h.nodup, by simp, fun a ha b hb => by rw [List.mem_singleton.1 hb]; rintro rfl; exact hm ha⟩
  · rcases List.mem_append.1 hg with hg | hg
    · exact h.isK g hg
    · rw [List.mem_singleton.1 hg]; exact nxt_isK hG hN hj
  · rw [List.getElem?_append_left (by omega)] at hg
    exact List.mem_append_left _ (h.done i hi g hg x hx)
  · rw [List.getElem?_append_left hkl, hf] at hg
    obtain rfl := Option.some.inj hg
    rcases Nat.lt_succ_iff_lt_or_eq.1 hx with hx | rfl
    · exact List.mem_append_left _ (h.part f hf x hx)
    · simp
theorem Fd.row (h : Fd os N F k N) : Fd os N F (k + 1) 0 :=
  ⟨h.nodup, h.one, h.isK, fun i hi f hf x hx => by
    rcases Nat.lt_succ_iff_lt_or_eq.1 hi with hi | rfl
    · exact h.done i hi f hf x hx
    · exact h.part f hf x hx, fun f _ x hx => absurd hx (by omega)⟩
end
end Go.Proofs.YtonehmjoolflfaaGreatDoor
