
/- Masks of subgroups, told plainly: the set of all masks that adding elements makes is that of all subgroups; the size of a subgroup divides that of the group. No program is walked here. -/
import Derived.Test.YtbpihnpakolooaaGreatDoorGN
import Derived.Test.YtbpihnpakolooaaGreatDoorU2a
namespace Go.Proofs.YtbpihnpakolooaaGreatDoor
open Go Go.RowKit Grp
set_option linter.unusedVariables false
/-- The elements of a mask below n, in ascending order. -/
def mems (n m : Nat) : List Int := ((List.range n).filter fun x => m.testBit x).map fun (x : Nat) => (x : Int)
/-- The mask of a list of elements. -/
def msk (xs : List Int) : Nat := xs.foldl (fun (m : Nat) (x : Int) => m ||| 2 ^ x.toNat) 0
theorem mem_mems {n m : Nat} {x : Int} : x ∈ mems n m ↔ 0 ≤ x ∧ x < n ∧ m.testBit x.toNat = true := by
  unfold mems
  simp only [List.mem_map, List.mem_filter, List.mem_range]
  constructor
  · rintro ⟨j, ⟨h1, h2⟩, rfl⟩; exact ⟨by omega, by omega, by simpa using h2⟩
  · rintro ⟨h0, h1, h2⟩; exact ⟨x.toNat, ⟨by omega, h2⟩, by omega⟩
theorem mems_lt (n m : Nat) : (mems n m).Pairwise (· < ·) := by
  unfold mems
  refine List.Pairwise.map _ (R := (· < ·)) (fun a b h => by simpa using h) ?_
  exact List.Pairwise.filter _ List.pairwise_lt_range
theorem mems_len (n m : Nat) : (mems n m).length ≤ n := by
  unfold mems
  rw [List.length_map]; exact Nat.le_trans (List.length_filter_le _ _) (by simp)
theorem msk_bit (xs : List Int) (j : Nat) : ∀ m : Nat, (xs.foldl (fun (m : Nat) (x : Int) => m ||| 2 ^ x.toNat) m).testBit j = (m.testBit j || xs.any fun x => x.toNat == j) := by
  induction xs with
  | nil => intro m; simp
  | cons x r ih =>
    intro m
    rw [List.foldl_cons, ih, Nat.testBit_or, Nat.testBit_two_pow]
    simp only [List.any_cons]
    rw [Bool.or_assoc]
    congr 2
theorem bit1 (j : Nat) : (1 : Nat).testBit j = true ↔ j = 0 := by
  rw [show (1 : Nat) = 2 ^ 0 from rfl, Nat.testBit_two_pow]
  simp only [decide_eq_true_eq]
  exact ⟨fun h => h.symm, fun h => h.symm⟩
theorem msk_testBit {xs : List Int} (hp : ∀ x ∈ xs, 0 ≤ x) (j : Nat) : (msk xs).testBit j = true ↔ (j : Int) ∈ xs := by
  unfold msk
  rw [msk_bit]
  simp only [Nat.zero_testBit, Bool.false_or, List.any_eq_true, beq_iff_eq]
  constructor
  · rintro ⟨x, hx, rfl⟩; have := hp x hx; rwa [Int.toNat_of_nonneg this]
  · intro h; exact ⟨j, h, by simp⟩
theorem msk_lt {xs : List Int} {n : Nat} (h : ∀ x ∈ xs, 0 ≤ x ∧ x < n) : msk xs < 2 ^ n := by
  refine Nat.lt_pow_two_of_testBit _ fun i hi => ?_
  cases hb : (msk xs).testBit i with
  | false => rfl
  | true =>
    have := h _ ((msk_testBit (fun x hx => (h x hx).1) i).1 hb)
    omega
theorem lt_ext {xs ys : List Int} (hx : xs.Pairwise (· < ·)) (hy : ys.Pairwise (· < ·)) (h : ∀ v, v ∈ xs ↔ v ∈ ys) : xs = ys := by
  have n1 : xs.Nodup := hx.imp fun h => by omega
  have n2 : ys.Nodup := hy.imp fun h => by omega
  have hp : xs.Perm ys := (List.perm_ext_iff_of_nodup n1 n2).2 h
  exact hp.eq_of_pairwise (le := (· ≤ ·)) (fun a b _ _ h1 h2 => by omega) (hx.imp fun h => by omega) (hy.imp fun h => by omega)
theorem mems_msk {xs : List Int} {n : Nat} (hs : xs.Pairwise (· < ·)) (h : ∀ x ∈ xs, 0 ≤ x ∧ x < n) : mems n (msk xs) = xs := by
  refine lt_ext (mems_lt _ _) hs fun v => ?_
  rw [mem_mems]
  constructor
  · rintro ⟨h0, h1, h2⟩
    have := (msk_testBit (fun x hx => (h x hx).1) v.toNat).1 h2
    rwa [Int.toNat_of_nonneg h0] at this
  · intro hv
    have hr := h v hv
    refine ⟨hr.1, hr.2, (msk_testBit (fun x hx => (h x hx).1) v.toNat).2 ?_⟩
    rwa [Int.toNat_of_nonneg hr.1]
theorem msk_mems {n m : Nat} (h : m < 2 ^ n) : msk (mems n m) = m := by
  refine Nat.eq_of_testBit_eq fun j => ?_
  have hp : ∀ x ∈ mems n m, 0 ≤ x := fun x hx => (mem_mems.1 hx).1
  by_cases hj : j < n
  · cases hb : m.testBit j with
    | true => exact (msk_testBit hp j).2 (mem_mems.2 ⟨by omega, by omega, by simpa using hb⟩)
    | false =>
      refine Bool.eq_false_iff.2 fun h1 => ?_
      have := (mem_mems.1 ((msk_testBit hp j).1 h1)).2.2
      simp [hb] at this
  · have h2 : m.testBit j = false := Nat.testBit_lt_two_pow (Nat.lt_of_lt_of_le h (Nat.pow_le_pow_right (by omega) (by omega)))
    rw [h2]
    refine Bool.eq_false_iff.2 fun h1 => ?_
    have := (mem_mems.1 ((msk_testBit hp j).1 h1)).2.1
    omega
/-! ### subgroups -/
/-- A list that holds 0 and is closed. -/
structure Sbg (os : List Int) (H : List Int) : Prop where
  zero : (0 : Int) ∈ H
  add : ∀ x ∈ H, ∀ y ∈ H, Ar os x y ∈ H
theorem clB_iff {os H : List Int} : clB os H = true ↔ Sbg os H := by
  unfold clB
  rw [Bool.and_eq_true, hasB_iff]
  constructor
  · rintro ⟨h0, h1⟩
    exact ⟨h0, fun x hx y hy => hasB_iff.1 (List.all_eq_true.1 (List.all_eq_true.1 h1 x hx) y hy)⟩
  · rintro ⟨h0, h1⟩
    exact ⟨h0, List.all_eq_true.2 fun x hx => List.all_eq_true.2 fun y hy => hasB_iff.2 (h1 x hx y hy)⟩
section
variable {os : List Int} {N : Nat} (hG : OkG os) (hN : (N : Int) = prodL os)
include hG hN
theorem ArR (a x : Int) : 0 ≤ Ar os a x ∧ Ar os a x < N := by have := Ar_rng hG a x; omega
/-- What elements make is a subgroup: sums of sums. -/
theorem gen_add {l : List Int} (hl : ∀ x ∈ l, 0 ≤ x ∧ x < N) {a b : Int} (ha : Gen (Ar os) l a) (hb : Gen (Ar os) l b) : Gen (Ar os) l (Ar os a b) := by
  induction hb with
  | zero =>
    have := ha.rng (ArR hG hN) (by have := hG.ge; omega)
    rw [Ar_zero hG this.1 (by omega)]
    exact ha
  | step hb hx ih =>
    rw [← Ar_assoc hG]
    exact .step ih hx
theorem gen_sbg {l : List Int} (hl : ∀ x ∈ l, 0 ≤ x ∧ x < N) : Sbg os (genL (Ar os) l N) := by
  have hge := hG.ge
  refine ⟨mem_genL.2 ⟨.zero, by omega, by omega⟩, fun x hx y hy => ?_⟩
  have h1 := mem_genL.1 hx
  have h2 := mem_genL.1 hy
  have h3 := ArR hG hN x y
  exact mem_genL.2 ⟨gen_add hG hN hl h1.1 h2.1, h3.1, h3.2⟩
theorem gen_mem {l : List Int} (hl : ∀ x ∈ l, 0 ≤ x ∧ x < N) {x : Int} (hx : x ∈ l) : x ∈ genL (Ar os) l N := by
  have hr := hl x hx
  have h1 : Gen (Ar os) l (Ar os 0 x) := .step .zero hx
  rw [Ar_comm, Ar_zero hG hr.1 (by omega)] at h1
  exact mem_genL.2 ⟨h1, hr.1, hr.2⟩
theorem gen_sub {l H : List Int} (hH : Sbg os H) (hl : ∀ x ∈ l, x ∈ H) : ∀ v ∈ genL (Ar os) l N, v ∈ H := by
  have _h := hG
  have _h2 := hN
  intro v hv
  have hg := (mem_genL.1 hv).1
  clear hv
  induction hg with
  | zero => exact hH.zero
  | step _ hx ih => exact hH.add _ ih _ (hl _ hx)
end
/-! ### the size of a subgroup divides the size of the group -/
section
variable {os H : List Int} {N : Nat} (hG : OkG os) (hN : (N : Int) = prodL os) (hH : Sbg os H) (hd : H.Nodup) (hr : ∀ x ∈ H, 0 ≤ x ∧ x < N)
include hG hN hH hd hr
theorem sb_cancel {x a b : Int} (ha : a ∈ H) (hb : b ∈ H) (he : Ar os x a = Ar os x b) : a = b := by
  have _h := hH
  have _h2 := hd
  have h1 : Ar os (Ng os x) (Ar os x a) = Ar os (Ng os x) (Ar os x b) := by rw [he]
  have ra := hr a ha
  have rb := hr b hb
  rwa [← Ar_assoc hG, ← Ar_assoc hG, Ar_comm os (Ng os x) x, Ar_neg hG, Ar_comm os 0 a, Ar_comm os 0 b, Ar_zero hG ra.1 (by omega), Ar_zero hG rb.1 (by omega)] at h1
theorem sb_inv {h : Int} (hh : h ∈ H) : ∃ g ∈ H, Ar os h g = 0 := by
  refine Classical.byContradiction fun hn => ?_
  have hnd : (0 :: H.map (Ar os h)).Nodup := by
    rw [List.nodup_cons]
    refine ⟨fun hm => ?_, ?_⟩
    · obtain ⟨g, hg, he⟩ := List.mem_map.1 hm
      exact hn ⟨g, hg, he⟩
    · rw [List.nodup_iff_pairwise_ne, List.pairwise_map]
      exact (List.nodup_iff_pairwise_ne.1 hd).imp_of_mem fun {a b} ha hb hab he => hab (sb_cancel hG hN hH hd hr ha hb he)
  have := hnd.length_le_of_subset (l₂ := H) (fun y hy => by
    rcases List.mem_cons.1 hy with rfl | hy
    · exact hH.zero
    · obtain ⟨g, hg, rfl⟩ := List.mem_map.1 hy
      exact hH.add h hh g hg)
  simp at this
  omega
/-- A set of numbers that is a union of cosets has a size that the subgroup's size divides. -/
theorem sb_union : ∀ (n : Nat) (U : List Int), U.length ≤ n → U.Nodup → (∀ x ∈ U, 0 ≤ x ∧ x < N) → (∀ x ∈ U, ∀ h ∈ H, Ar os x h ∈ U) → ∃ k, U.length = k * H.length := by
  intro n
  induction n with
  | zero => intro U hl _ _ _; exact ⟨0, by omega⟩
  | succ n ih =>
    intro U hl hU hR hC
    cases hUe : U with
    | nil => exact ⟨0, by simp⟩
    | cons x r =>
      have hxU : x ∈ U := by rw [hUe]; simp
      have hxr := hR x hxU
      have hcn : (H.map (Ar os x)).Nodup := by
        rw [List.nodup_iff_pairwise_ne, List.pairwise_map]
        exact (List.nodup_iff_pairwise_ne.1 hd).imp_of_mem fun {a b} ha hb hab he => hab (sb_cancel hG hN hH hd hr ha hb he)
      have hcs : ∀ y ∈ H.map (Ar os x), y ∈ U := fun y hy => by
        obtain ⟨h, hh, rfl⟩ := List.mem_map.1 hy
        exact hC x hxU h hh
      obtain ⟨V, hV⟩ : ∃ V, V = U.filter fun y => !(H.map (Ar os x)).contains y := ⟨_, rfl⟩
      have hmV : ∀ y, y ∈ V ↔ y ∈ U ∧ y ∉ H.map (Ar os x) := fun y => by rw [hV, List.mem_filter]; simp
      have hVn : V.Nodup := by rw [hV]; exact hU.filter _
      have hp : U.Perm (H.map (Ar os x) ++ V) := by
        refine (List.perm_ext_iff_of_nodup hU ?_).2 fun y => ?_
        · rw [List.nodup_append]
          exact ⟨hcn, hVn, fun a ha b hb e => ((hmV b).1 hb).2 (e ▸ ha)⟩
        · rw [List.mem_append, hmV]
          constructor
          · intro hy
            by_cases h : y ∈ H.map (Ar os x)
            · exact .inl h
            · exact .inr ⟨hy, h⟩
          · rintro (h | h)
            · exact hcs y h
            · exact h.1
      have hlen := hp.length_eq
      rw [List.length_append, List.length_map] at hlen
      have hHp : 0 < H.length := List.length_pos_of_mem hH.zero
      obtain ⟨k, hk⟩ := ih V (by omega) hVn (fun y hy => hR y ((hmV y).1 hy).1) (fun y hy h hh => by
        have hy' := (hmV y).1 hy
        refine (hmV _).2 ⟨hC y hy'.1 h hh, fun hm => hy'.2 ?_⟩
        obtain ⟨a, ha, he⟩ := List.mem_map.1 hm
        obtain ⟨g, hg, hz⟩ := sb_inv hG hN hH hd hr hh
        have hyr := hR y hy'.1
        refine List.mem_map.2 ⟨Ar os a g, hH.add a ha g hg, ?_⟩
        rw [← Ar_assoc hG, he, Ar_assoc hG, hz, Ar_zero hG hyr.1 (by omega)])
      exact ⟨k + 1, by rw [← hUe, hlen, hk, Nat.add_mul, Nat.one_mul, Nat.add_comm]⟩
theorem sb_dvd : N % H.length = 0 := by
  obtain ⟨k, hk⟩ := sb_union hG hN hH hd hr N ((List.range N).map fun (x : Nat) => (x : Int)) (by simp) (by
      rw [List.nodup_iff_pairwise_ne, List.pairwise_map]
      exact (List.nodup_iff_pairwise_ne.1 List.nodup_range).imp fun h => by omega) (fun x hx => by
      obtain ⟨j, hj, rfl⟩ := List.mem_map.1 hx
      have := List.mem_range.1 hj
      omega) (fun x hx h hh => by
      have := Ar_rng hG x h
      exact List.mem_map.2 ⟨(Ar os x h).toNat, List.mem_range.2 (by omega), by omega⟩)
  simp at hk
  rw [hk]; simp
end
/-! ### all masks -/
/-- A mask of a subgroup. -/
def IsK (os : List Int) (N m : Nat) : Prop := m < 2 ^ N ∧ Sbg os (mems N m)
open Classical in
/-- The masks of all subgroups, in ascending order. -/
noncomputable def allK (os : List Int) (N : Nat) : List Nat := (List.range (2 ^ N)).filter fun m => decide (Sbg os (mems N m))
theorem mem_allK {os : List Int} {N m : Nat} : m ∈ allK os N ↔ IsK os N m := by
  unfold allK IsK
  simp [List.mem_filter, List.mem_range]
theorem allK_lt (os : List Int) (N : Nat) : (allK os N).Pairwise (· < ·) := by
  unfold allK
  exact List.Pairwise.filter _ List.pairwise_lt_range
/-- The mask of what a mask's elements and one more make. -/
noncomputable def nxt (os : List Int) (N m x : Nat) : Nat := msk (genL (Ar os) (mems N m ++ [(x : Int)]) N)
theorem mems_rng {N m : Nat} : ∀ x ∈ mems N m, 0 ≤ x ∧ x < N := fun x hx => by have := mem_mems.1 hx; exact ⟨this.1, this.2.1⟩
section
variable {os : List Int} {N : Nat} (hG : OkG os) (hN : (N : Int) = prodL os)
include hG hN
theorem ml_rng {m x : Nat} (hx : x < N) : ∀ y ∈ mems N m ++ [(x : Int)], 0 ≤ y ∧ y < N := fun y hy => by
  have _h := hG
  have _h2 := hN
  rcases List.mem_append.1 hy with hy | hy
  · exact mems_rng y hy
  · rw [List.mem_singleton.1 hy]; omega
theorem nxt_mems {m x : Nat} : mems N (nxt os N m x) = genL (Ar os) (mems N m ++ [(x : Int)]) N :=
  mems_msk (genL_lt _ _ _) fun y hy => by have _h := hG; have _h2 := hN; have := mem_genL.1 hy; exact ⟨this.2.1, this.2.2⟩
theorem nxt_isK {m x : Nat} (hx : x < N) : IsK os N (nxt os N m x) :=
  ⟨msk_lt fun y hy => by have := mem_genL.1 hy; exact ⟨this.2.1, this.2.2⟩, by rw [nxt_mems hG hN]; exact gen_sbg hG hN (ml_rng hG hN hx)⟩
theorem one_isK : IsK os N 1 := by
  have hge := hG.ge
  have hm : mems N 1 = [0] := by
    refine lt_ext (mems_lt _ _) (by simp) fun v => ?_
    rw [mem_mems]
    simp only [List.mem_singleton]
    constructor
    · rintro ⟨h0, h1, h2⟩
      have := (bit1 _).1 h2
      omega
    · rintro rfl
      exact ⟨by omega, by omega, by decide⟩
  refine ⟨Nat.one_lt_two_pow (by omega), ?_⟩
  rw [hm]
  refine ⟨by simp, fun x hx y hy => ?_⟩
  rw [List.mem_singleton.1 hx, List.mem_singleton.1 hy, Ar_zero hG (by omega) (by omega)]
  simp
/-- A set of masks that holds 1 and is closed under adding elements holds all. -/
theorem all_found {F : List Nat} (h1 : 1 ∈ F) (hc : ∀ f ∈ F, ∀ x, x < N → nxt os N f x ∈ F) {m : Nat} (hm : IsK os N m) : m ∈ F := by
  have hge := hG.ge
  have key : ∀ d, ∀ f ∈ F, (∀ y ∈ mems N f, y ∈ mems N m) → f < 2 ^ N → N - (mems N f).length ≤ d → m ∈ F := by
    intro d
    induction d with
    | zero =>
      intro f hf hs hlt hd
      have hle := mems_len N f
      have hall : ∀ v : Int, 0 ≤ v → v < N → v ∈ mems N f := fun v h0 h1 => by
        refine Classical.byContradiction fun hn => ?_
        have nd : (v :: mems N f).Nodup := List.nodup_cons.2 ⟨hn, (mems_lt N f).imp fun h => by omega⟩
        have := nd.length_le_of_subset (l₂ := (List.range N).map fun (x : Nat) => (x : Int)) (fun y hy => by
          rcases List.mem_cons.1 hy with rfl | hy
          · exact List.mem_map.2 ⟨y.toNat, List.mem_range.2 (by omega), by omega⟩
          · have := mems_rng y hy
            exact List.mem_map.2 ⟨y.toNat, List.mem_range.2 (by omega), by omega⟩)
        simp at this
        omega
      have he : mems N f = mems N m := lt_ext (mems_lt _ _) (mems_lt _ _) fun v => ⟨hs v, fun hv => by have := mems_rng v hv; exact hall v this.1 this.2⟩
      rw [← msk_mems hm.1, ← he, msk_mems hlt]; exact hf
    | succ d ih =>
      intro f hf hs hlt hd
      by_cases he : ∀ y ∈ mems N m, y ∈ mems N f
      · have he : mems N f = mems N m := lt_ext (mems_lt _ _) (mems_lt _ _) fun v => ⟨hs v, he v⟩
        rw [← msk_mems hm.1, ← he, msk_mems hlt]; exact hf
      · obtain ⟨y, hy⟩ := Classical.not_forall.1 he
        obtain ⟨hym, hyf⟩ := Classical.not_imp.1 hy
        have hyr := mems_rng y hym
        obtain ⟨x, rfl⟩ : ∃ x : Nat, y = (x : Int) := ⟨y.toNat, by omega⟩
        have hx : x < N := by omega
        have hK := nxt_isK hG hN (m := f) hx
        have hmm := nxt_mems hG hN (m := f) (x := x)
        have hrl := ml_rng hG hN (m := f) hx
        refine ih (nxt os N f x) (hc f hf x hx) (fun v hv => ?_) hK.1 ?_
        · rw [hmm] at hv
          exact gen_sub hG hN hm.2 (fun z hz => by
            rcases List.mem_append.1 hz with hz | hz
            · exact hs z hz
            · rw [List.mem_singleton.1 hz]; exact hym) v hv
        · have nd : ((x : Int) :: mems N f).Nodup := List.nodup_cons.2 ⟨hyf, (mems_lt N f).imp fun h => by omega⟩
          have := nd.length_le_of_subset (l₂ := mems N (nxt os N f x)) (fun z hz => by
            rw [hmm]
            rcases List.mem_cons.1 hz with rfl | hz
            · exact gen_mem hG hN hrl (by simp)
            · exact gen_mem hG hN hrl (by simp [hz]))
          simp at this
          omega
  refine key N 1 h1 (fun y hy => ?_) (one_isK hG hN).1 (by omega)
  have h2 := mem_mems.1 hy
  have : y = 0 := by
    have := (bit1 _).1 h2.2.2
    omega
  rw [this]; exact hm.2.zero
end
/-- The masks found so far, the first k of them with all elements, the next one with those below j. -/
structure Fd (os : List Int) (N : Nat) (F : List Nat) (k j : Nat) : Prop where
  nodup : F.Nodup
  one : 1 ∈ F
  isK : ∀ f ∈ F, IsK os N f
  done : ∀ i, i < k → ∀ f, F[i]? = some f → ∀ x, x < N → nxt os N f x ∈ F
  part : ∀ f, F[k]? = some f → ∀ x, x < j → nxt os N f x ∈ F
section
variable {os : List Int} {N k j : Nat} {F : List Nat} (hG : OkG os) (hN : (N : Int) = prodL os)
theorem Fd.start : OkG os → (N : Int) = prodL os → Fd os N [1] 0 0 := fun hG hN =>
  ⟨by simp, by simp, fun f hf => by rw [List.mem_singleton.1 hf]; exact one_isK hG hN, fun i hi => absurd hi (by omega), fun f _ x hx => absurd hx (by omega)⟩
theorem Fd.len (h : Fd os N F k j) : F.length ≤ 2 ^ N := by
  have := h.nodup.length_le_of_subset (l₂ := List.range (2 ^ N)) (fun f hf => List.mem_range.2 (h.isK f hf).1)
  simpa using this
theorem Fd.met (h : Fd os N F k j) {f : Nat} (hf : F[k]? = some f) (hm : nxt os N f j ∈ F) : Fd os N F k (j + 1) :=
  ⟨h.nodup, h.one, h.isK, h.done, fun f' hf' x hx => by
    rw [hf] at hf'
    obtain rfl := Option.some.inj hf'
    rcases Nat.lt_succ_iff_lt_or_eq.1 hx with hx | rfl
    · exact h.part f hf x hx
    · exact hm⟩
theorem Fd.push (hG : OkG os) (hN : (N : Int) = prodL os) (h : Fd os N F k j) {f : Nat} (hf : F[k]? = some f) (hj : j < N) (hm : nxt os N f j ∉ F) : Fd os N (F ++ [nxt os N f j]) k (j + 1) := by
  have hkl := (List.getElem?_eq_some_iff.1 hf).1
  refine ⟨?_, by simp [h.one], fun g hg => ?_, fun i hi g hg x hx => ?_, fun g hg x hx => ?_⟩
  · rw [List.nodup_append]
    exact ⟨h.nodup, by simp, fun a ha b hb => by rw [List.mem_singleton.1 hb]; rintro rfl; exact hm ha⟩
  · rcases List.mem_append.1 hg with hg | hg
    · exact h.isK g hg
    · rw [List.mem_singleton.1 hg]; exact nxt_isK hG hN hj
  · rw [List.getElem?_append_left (by omega)] at hg
    exact List.mem_append_left _ (h.done i hi g hg x hx)
  · rw [List.getElem?_append_left hkl, hf] at hg
    obtain rfl := Option.some.inj hg
    rcases Nat.lt_succ_iff_lt_or_eq.1 hx with hx | rfl
    · exact List.mem_append_left _ (h.part f hf x hx)
    · simp
theorem Fd.row (h : Fd os N F k N) : Fd os N F (k + 1) 0 :=
  ⟨h.nodup, h.one, h.isK, fun i hi f hf x hx => by
    rcases Nat.lt_succ_iff_lt_or_eq.1 hi with hi | rfl
    · exact h.done i hi f hf x hx
    · exact h.part f hf x hx, fun f _ x hx => absurd hx (by omega)⟩
theorem Fd.fin (hG : OkG os) (hN : (N : Int) = prodL os) (h : Fd os N F k 0) (hk : F.length ≤ k) (m : Nat) : m ∈ F ↔ m ∈ allK os N := by
  rw [mem_allK]
  refine ⟨h.isK m, fun hm => all_found hG hN h.one (fun f hf x hx => ?_) hm⟩
  obtain ⟨i, hi, rfl⟩ := List.mem_iff_getElem.1 hf
  exact h.done i (by omega) _ (List.getElem?_eq_getElem hi) x hx
/-- The masks found, in ascending order, are all masks of subgroups. -/
theorem Fd.sort (hG : OkG os) (hN : (N : Int) = prodL os) (h : Fd os N F k 0) (hk : F.length ≤ k) :
    (F.map fun (m : Nat) => (m : Int)).mergeSort (fun x y => decide (x ≤ y)) = (allK os N).map fun (m : Nat) => (m : Int) := by
  have n1 : (F.map fun (m : Nat) => (m : Int)).Nodup := by
    rw [List.nodup_iff_pairwise_ne, List.pairwise_map]
    exact (List.nodup_iff_pairwise_ne.1 h.nodup).imp fun h => by omega
  have l2 : ((allK os N).map fun (m : Nat) => (m : Int)).Pairwise (· < ·) := by
    rw [List.pairwise_map]
    exact (allK_lt os N).imp fun h => by omega
  have n2 : ((allK os N).map fun (m : Nat) => (m : Int)).Nodup := l2.imp fun h => by omega
  have hp : ((F.map fun (m : Nat) => (m : Int)).mergeSort (fun x y => decide (x ≤ y))).Perm ((allK os N).map fun (m : Nat) => (m : Int)) := by
    refine (List.mergeSort_perm _ _).trans ((List.perm_ext_iff_of_nodup n1 n2).2 fun y => ?_)
    simp only [List.mem_map]
    constructor
    · rintro ⟨m, hm, rfl⟩; exact ⟨m, (h.fin hG hN hk m).1 hm, rfl⟩
    · rintro ⟨m, hm, rfl⟩; exact ⟨m, (h.fin hG hN hk m).2 hm, rfl⟩
  refine hp.eq_of_pairwise (le := (· ≤ ·)) (fun a b _ _ h1 h2 => by omega) ?_ (l2.imp fun h => by omega)
  have := List.pairwise_mergeSort (le := fun x y : Int => decide (x ≤ y)) (fun a b c h1 h2 => by simp at *; omega) (fun a b => by simp; omega) (F.map fun (m : Nat) => (m : Int))
  exact this.imp fun hab => by simpa using hab
end
end Go.Proofs.YtbpihnpakolooaaGreatDoor
