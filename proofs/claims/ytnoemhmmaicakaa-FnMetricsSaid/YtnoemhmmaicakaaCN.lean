
/- Cosets of a subgroup, and the condensation of a metric by an isotropic subgroup, told plainly; no program is walked here. -/
import Derived.Test.YtnoemhmmaicakaaU5
import Derived.Test.YtnoemhmmaicakaaGN
import Derived.Maps.OwnSet
namespace Go.Proofs.Ytnoemhmmaicakaa
open Go Go.RowKit Grp
set_option linter.unusedVariables false
/-- A subgroup on which all values are 1. -/
structure Cs (os : List Int) (D : Int) (vs xs : List Int) : Prop where
  m : IsM os D vs
  rng : ∀ x ∈ xs, 0 ≤ x ∧ x < prodL os
  nodup : xs.Nodup
  zero : 0 ∈ xs
  add : ∀ x ∈ xs, ∀ y ∈ xs, Ar os x y ∈ xs
  iso : ∀ x ∈ xs, Vl vs x = 0
theorem IsLst.nodup {N : Int} {xs : List Int} (h : IsLst N xs) : xs.Nodup := by
  have hlt : ∀ j k, j < k → k < xs.length → gi xs j < gi xs k := by
    intro j k hjk hk
    induction k with
    | zero => omega
    | succ k ih =>
      have h2 := (h (k + 1) hk).2 (by omega)
      simp only [Nat.add_sub_cancel] at h2
      rcases Nat.lt_succ_iff_lt_or_eq.1 hjk with h3 | rfl
      · have := ih h3 (by omega); omega
      · exact h2
  rw [List.nodup_iff_pairwise_ne, List.pairwise_iff_getElem]
  intro i j hi hj hij he
  have := hlt i j hij hj
  rw [gi_ext hi, gi_ext hj] at he
  omega
theorem Cs.of {os vs xs : List Int} {D : Int} (h : codeS os D vs xs = 0) (hi : isoB vs xs = true) : Cs os D vs xs := by
  obtain ⟨hM, hI, hc⟩ := codeS_0 h
  unfold clB at hc
  rw [Bool.and_eq_true, hasB_iff] at hc
  refine ⟨hM, hI.mem, hI.nodup, hc.1, fun x hx y hy => ?_, fun x hx => ?_⟩
  · have h1 := List.all_eq_true.1 hc.2 x hx
    exact hasB_iff.1 (List.all_eq_true.1 h1 y hy)
  · have h1 := List.all_eq_true.1 hi x hx
    simpa using h1
/-- The least of x and its sums with a list. -/
def ldr (os xs : List Int) (x : Int) : Int := xs.foldl (fun a h => min a (Ar os x h)) x
theorem foldMin (f : Int → Int) (xs : List Int) : ∀ a, xs.foldl (fun a h => min a (f h)) a ≤ a ∧ (∀ h ∈ xs, xs.foldl (fun a h => min a (f h)) a ≤ f h) ∧ (xs.foldl (fun a h => min a (f h)) a = a ∨ ∃ h ∈ xs, xs.foldl (fun a h => min a (f h)) a = f h) := by
  induction xs with
  | nil => intro a; exact ⟨Int.le_refl _, by simp, .inl rfl⟩
  | cons x r ih =>
    intro a
    obtain ⟨h1, h2, h3⟩ := ih (min a (f x))
    simp only [List.foldl_cons]
    refine ⟨by omega, fun h hh => ?_, ?_⟩
    · rcases List.mem_cons.1 hh with rfl | hh
      · omega
      · exact h2 h hh
    · rcases h3 with h3 | ⟨h, hh, h3⟩
      · rw [h3]
        by_cases hc : a ≤ f x
        · exact .inl (by omega)
        · exact .inr ⟨x, by simp, by omega⟩
      · exact .inr ⟨h, by simp [hh], h3⟩
theorem ldr_le (os xs : List Int) (x : Int) : ldr os xs x ≤ x := (foldMin _ xs x).1
theorem ldr_snoc (os : List Int) (xs : List Int) (h x : Int) : ldr os (xs ++ [h]) x = min (ldr os xs x) (Ar os x h) := by simp [ldr]
theorem ldr_le_add {os xs : List Int} {x h : Int} (hh : h ∈ xs) : ldr os xs x ≤ Ar os x h := (foldMin _ xs x).2.1 h hh
section
variable {os vs xs : List Int} {D : Int} (hC : Cs os D vs xs)
include hC
theorem Cs.g : OkG os := hC.m.ok.g
theorem Cs.at0 {x : Int} (h0 : 0 ≤ x) (h1 : x < prodL os) : Ar os x 0 = x := Ar_zero hC.g h0 h1
theorem Cs.len (h : xs.length ≠ 0 → True) : (xs.length : Int) ≤ prodL os := by
  have hp := hC.g.ge
  have := hC.nodup.length_le_of_subset (l₂ := (List.range (prodL os).toNat).map fun (x : Nat) => (x : Int)) (fun y hy => by
    have := hC.rng y hy
    exact List.mem_map.2 ⟨y.toNat, List.mem_range.2 (by omega), by omega⟩)
  simp at this
  omega
theorem Cs.ldr_mem {x : Int} (h0 : 0 ≤ x) (h1 : x < prodL os) : ∃ h ∈ xs, ldr os xs x = Ar os x h := by
  rcases (foldMin (fun h => Ar os x h) xs x).2.2 with h | h
  · exact ⟨0, hC.zero, by rw [hC.at0 h0 h1]; exact h⟩
  · exact h
theorem Cs.cancel {h a b : Int} (hh : h ∈ xs) (ha : a ∈ xs) (hb : b ∈ xs) (he : Ar os h a = Ar os h b) : a = b := by
  have h1 : Ar os (Ng os h) (Ar os h a) = Ar os (Ng os h) (Ar os h b) := by rw [he]
  rw [← Ar_assoc hC.g, ← Ar_assoc hC.g, Ar_comm os (Ng os h) h, Ar_neg hC.g, Ar_comm os 0 a, Ar_comm os 0 b, hC.at0 (hC.rng a ha).1 (hC.rng a ha).2, hC.at0 (hC.rng b hb).1 (hC.rng b hb).2] at h1
  exact h1
theorem Cs.inv {h : Int} (hh : h ∈ xs) : ∃ g ∈ xs, Ar os h g = 0 := by
  refine Classical.byContradiction fun hn => ?_
  have hnd : (0 :: xs.map (Ar os h)).Nodup := by
    rw [List.nodup_cons]
    refine ⟨fun hm => ?_, ?_⟩
    · obtain ⟨g, hg, he⟩ := List.mem_map.1 hm
      exact hn ⟨g, hg, he⟩
    · rw [List.nodup_iff_pairwise_ne, List.pairwise_map]
      exact (List.nodup_iff_pairwise_ne.1 hC.nodup).imp_of_mem fun {a b} ha hb hab he => hab (hC.cancel hh ha hb he)
  have := hnd.length_le_of_subset (l₂ := xs) (fun y hy => by
    rcases List.mem_cons.1 hy with rfl | hy
    · exact hC.zero
    · obtain ⟨g, hg, rfl⟩ := List.mem_map.1 hy
      exact hC.add h hh g hg)
  simp at this
  omega
theorem Cs.coset {x h : Int} (h0 : 0 ≤ x) (h1 : x < prodL os) (hh : h ∈ xs) : ldr os xs (Ar os x h) = ldr os xs x := by
  have hr := Ar_rng hC.g x h
  obtain ⟨k, hk, ek⟩ := hC.ldr_mem h0 h1
  obtain ⟨j, hj, ej⟩ := hC.ldr_mem hr.1 hr.2
  obtain ⟨g, hg, eg⟩ := hC.inv hh
  have a1 : ldr os xs x ≤ ldr os xs (Ar os x h) := by
    rw [ej, Ar_assoc hC.g]
    exact ldr_le_add (hC.add h hh j hj)
  have a2 : ldr os xs (Ar os x h) ≤ ldr os xs x := by
    have e : Ar os x k = Ar os (Ar os x h) (Ar os g k) := by
      rw [Ar_assoc hC.g, ← Ar_assoc hC.g h g k, eg, Ar_comm os 0 k, hC.at0 (hC.rng k hk).1 (hC.rng k hk).2]
    rw [ek, e]
    exact ldr_le_add (hC.add g hg k hk)
  omega
theorem Cs.ldr_rng {x : Int} (h0 : 0 ≤ x) (h1 : x < prodL os) : 0 ≤ ldr os xs x ∧ ldr os xs x < prodL os := by
  obtain ⟨k, hk, ek⟩ := hC.ldr_mem h0 h1
  rw [ek]; exact Ar_rng hC.g x k
theorem Cs.ldr_ldr {x : Int} (h0 : 0 ≤ x) (h1 : x < prodL os) : ldr os xs (ldr os xs x) = ldr os xs x := by
  obtain ⟨k, hk, ek⟩ := hC.ldr_mem h0 h1
  rw [ek, hC.coset h0 h1 hk, ek]
/-- y is in the coset of x just if both have one leader. -/
theorem Cs.same {x y : Int} (x0 : 0 ≤ x) (x1 : x < prodL os) (y0 : 0 ≤ y) (y1 : y < prodL os) (he : ldr os xs y = ldr os xs x) : ∃ h ∈ xs, y = Ar os x h := by
  obtain ⟨k, hk, ek⟩ := hC.ldr_mem x0 x1
  obtain ⟨j, hj, ej⟩ := hC.ldr_mem y0 y1
  obtain ⟨g, hg, eg⟩ := hC.inv hj
  refine ⟨Ar os k g, hC.add k hk g hg, ?_⟩
  rw [← Ar_assoc hC.g, ← ek, ← he, ej, Ar_assoc hC.g, eg, hC.at0 y0 y1]
end
/-! ### the orthogonal list -/
theorem mem_ortL {os vs xs : List Int} {D : Int} {k : Nat} {x : Int} : x ∈ ortL os D vs xs k ↔ 0 ≤ x ∧ x < k ∧ ∀ y ∈ xs, Pr os D vs x y = 0 := by
  unfold ortL ortB
  simp only [List.mem_map, List.mem_filter, List.mem_range, List.all_eq_true, beq_iff_eq]
  constructor
  · rintro ⟨j, ⟨h1, h2⟩, rfl⟩; exact ⟨by omega, by omega, h2⟩
  · rintro ⟨h0, h1, h2⟩
    exact ⟨x.toNat, ⟨by omega, by rwa [Int.toNat_of_nonneg h0]⟩, by omega⟩
theorem ortL_lt (os vs xs : List Int) (D : Int) (k : Nat) : (ortL os D vs xs k).Pairwise (· < ·) := by
  unfold ortL
  refine List.Pairwise.map _ (R := (· < ·)) (fun a b h => by simpa using h) ?_
  exact List.Pairwise.filter _ List.pairwise_lt_range
/-- The leaders among the first k elements of the orthogonal list O. -/
def ldL (os xs O : List Int) (k : Nat) : List Int := (O.take k).filter fun x => ldr os xs x == x
theorem ldL_t {os xs O : List Int} {k : Nat} (hk : k < O.length) (h : ldr os xs (gi O k) = gi O k) : ldL os xs O (k + 1) = ldL os xs O k ++ [gi O k] := by
  unfold ldL; rw [take_gi hk, List.filter_append]; simp [h]
theorem ldL_f {os xs O : List Int} {k : Nat} (hk : k < O.length) (h : ldr os xs (gi O k) ≠ gi O k) : ldL os xs O (k + 1) = ldL os xs O k := by
  unfold ldL; rw [take_gi hk, List.filter_append]; simp [h]
theorem ldL_sub {os xs O : List Int} {k : Nat} : ∀ x ∈ ldL os xs O k, x ∈ O.take k := fun x hx => (List.mem_filter.1 hx).1
theorem ldL_len (os xs O : List Int) (k : Nat) : (ldL os xs O k).length ≤ k := by
  unfold ldL
  exact Nat.le_trans (List.length_filter_le _ _) (by rw [List.length_take]; omega)
theorem idxF_app {q r : List Int} {v : Int} (h : v ∈ q) : idxF (q ++ r) v = idxF q v := by
  unfold idxF
  rw [if_pos (hasB_iff.2 h), if_pos (hasB_iff.2 (by simp [h]))]
  congr 1
  rw [List.findIdx_append, if_pos (List.findIdx_lt_length.2 ⟨v, h, by simp⟩)]
theorem idxF_new {q : List Int} {v : Int} (h : v ∉ q) : idxF (q ++ [v]) v = q.length := by
  refine idxF_at (k := q.length) (by simp) (by simp [gi]) fun j hj he => h ?_
  rw [gi_app_l hj] at he
  rw [← he]; exact gi_mem hj
/-- The classes of sums of leaders. -/
def ctab (os xs L : List Int) : List (List Int) := L.map fun x => L.map fun y => idxF L (ldr os xs (Ar os x y))
/-- What a map holds at the numbers below N: a number f y at each y of P. -/
def Cov (M : DataW Unit) (N : Int) (P : Int → Prop) (f : Int → Int) : Prop := ∀ y, 0 ≤ y → y < N → (Maps.has M (.int .i64 y) = true ↔ P y) ∧ (P y → M.atKey (.int .i64 y) (.lit (.int .i64 0)) = .lit (.int .i64 (f y)))
theorem Cov.none {N : Int} {f : Int → Int} : Cov (.map []) N (fun _ => False) f := fun y _ _ => ⟨by simp [Maps.has], fun h => h.elim⟩
theorem Cov.imp {M : DataW Unit} {N : Int} {P Q : Int → Prop} {f g : Int → Int} (h : Cov M N P f) (hp : ∀ y, 0 ≤ y → y < N → (P y ↔ Q y)) (hf : ∀ y, 0 ≤ y → y < N → Q y → f y = g y) : Cov M N Q g := fun y h0 h1 =>
  ⟨(h y h0 h1).1.trans (hp y h0 h1), fun hq => by rw [(h y h0 h1).2 ((hp y h0 h1).2 hq), hf y h0 h1 hq]⟩
theorem Cov.put {M : DataW Unit} {N : Int} {P : Int → Prop} {f : Int → Int} (h : Cov M N P f) (hM : Maps.IsMap M) {z v : Int} (hv : f z = v) : Cov (M.put (.int .i64 z) (.lit (.int .i64 v))) N (fun y => P y ∨ y = z) f := by
  have hk : WideAt.IsKeyLit (.int .i64 z) := by simp [WideAt.IsKeyLit]
  intro y h0 h1
  by_cases e : y = z
  · subst e
    exact ⟨⟨fun _ => .inr rfl, fun _ => Maps.has_put_same hM hk _⟩, fun _ => by rw [Maps.atKey_put_same hM hk, hv]⟩
  · have hne : (Lit.int .i64 y) ≠ (Lit.int .i64 z) := fun h => e (by injection h)
    rw [Maps.has_put_other hne, Maps.atKey_put_other hne]
    refine ⟨(h y h0 h1).1.trans ⟨.inl, fun hp => hp.elim id fun h => absurd h e⟩, fun hp => (h y h0 h1).2 (hp.elim id fun h => absurd h e)⟩
section
variable {os vs xs O : List Int} {D : Int} (hC : Cs os D vs xs) (hO : O = ortL os D vs xs vs.length)
include hC hO
theorem Cs.memO {x : Int} : x ∈ O ↔ 0 ≤ x ∧ x < prodL os ∧ ∀ y ∈ xs, Pr os D vs x y = 0 := by
  rw [hO, mem_ortL, hC.m.ok.len]
theorem Cs.bilI {x y z : Int} (x0 : 0 ≤ x) (x1 : x < prodL os) (y0 : 0 ≤ y) (y1 : y < prodL os) (z0 : 0 ≤ z) (z1 : z < prodL os) : Pr os D vs (Ar os x y) z = (Pr os D vs x z + Pr os D vs y z) % D := by
  have _h := hO
  have := hC.m.bil x.toNat y.toNat z.toNat (by omega) (by omega) (by omega)
  rwa [Int.toNat_of_nonneg x0, Int.toNat_of_nonneg y0, Int.toNat_of_nonneg z0] at this
theorem Cs.addO {x y : Int} (hx : x ∈ O) (hy : y ∈ O) : Ar os x y ∈ O := by
  rw [hC.memO hO] at hx hy ⊢
  have hr := Ar_rng hC.g x y
  refine ⟨hr.1, hr.2, fun z hz => ?_⟩
  rw [hC.bilI hO hx.1 hx.2.1 hy.1 hy.2.1 (hC.rng z hz).1 (hC.rng z hz).2, hx.2.2 z hz, hy.2.2 z hz]
  simp
theorem Cs.subO {h : Int} (hh : h ∈ xs) : h ∈ O := by
  rw [hC.memO hO]
  refine ⟨(hC.rng h hh).1, (hC.rng h hh).2, fun z hz => ?_⟩
  unfold Pr
  rw [hC.iso _ (hC.add h hh z hz), hC.iso h hh, hC.iso z hz]
  simp
theorem Cs.ldrO {x : Int} (hx : x ∈ O) : ldr os xs x ∈ O := by
  have h1 := (hC.memO hO).1 hx
  obtain ⟨k, hk, ek⟩ := hC.ldr_mem h1.1 h1.2.1
  rw [ek]; exact hC.addO hO hx (hC.subO hO hk)
theorem Cs.lenO : O.length ≤ 16 := by
  rw [hO]; exact Nat.le_trans (ortL_len _ _ _ _ _) hC.m.ok.lt
/-- A leader lies among the first elements just if it is less than the next one. -/
theorem Cs.taken {k : Nat} (hk : k < O.length) {y : Int} (hy : y ∈ O) : y ∈ O.take k ↔ y < gi O k := by
  have _h := hC
  have hs : O.Pairwise (· < ·) := by rw [hO]; exact ortL_lt _ _ _ _ _
  constructor
  · intro h
    obtain ⟨j, hj, rfl⟩ := List.mem_iff_getElem.1 h
    simp at hj
    rw [List.getElem_take, ← gi_ext hk]
    exact List.pairwise_iff_getElem.1 hs j k (by omega) hk (by omega)
  · intro h
    obtain ⟨j, hj, rfl⟩ := List.mem_iff_getElem.1 hy
    by_cases hjk : j < k
    · exact List.mem_iff_getElem.2 ⟨j, by simp; omega, by rw [List.getElem_take]⟩
    · exfalso
      rw [← gi_ext hk] at h
      rcases Nat.lt_or_ge k j with hl | hl
      · have := List.pairwise_iff_getElem.1 hs k j hk hj hl; omega
      · obtain rfl : j = k := by omega
        omega
/-- What the map knows behind k elements. -/
def CovK (os xs O : List Int) (k : Nat) (y : Int) : Prop := y ∈ O ∧ ldr os xs y ∈ O.take k
omit hC hO in
theorem CovK.zero (y : Int) : ¬ CovK os xs O 0 y := fun h => by simpa using h.2
/-- The element k has been met just if it is no leader. -/
theorem Cs.met {k : Nat} (hk : k < O.length) : CovK os xs O k (gi O k) ↔ ldr os xs (gi O k) ≠ gi O k := by
  have hm := gi_mem hk
  unfold CovK
  rw [hC.taken hO hk (hC.ldrO hO hm)]
  have := ldr_le os xs (gi O k)
  constructor
  · rintro ⟨_, h⟩; omega
  · intro h; exact ⟨hm, by omega⟩
omit hC hO in
theorem mem_take_succ {k : Nat} (hk : k < O.length) {y : Int} : y ∈ O.take (k + 1) ↔ y ∈ O.take k ∨ y = gi O k := by rw [take_gi hk]; simp
theorem Cs.covF {k : Nat} (hk : k < O.length) (h : ldr os xs (gi O k) ≠ gi O k) (y : Int) : CovK os xs O k y ↔ CovK os xs O (k + 1) y := by
  unfold CovK
  rw [mem_take_succ hk]
  refine ⟨fun h => ⟨h.1, .inl h.2⟩, fun h' => ⟨h'.1, h'.2.resolve_right fun e => h ?_⟩⟩
  have hy := (hC.memO hO).1 h'.1
  rw [← e]; exact hC.ldr_ldr hy.1 hy.2.1
theorem Cs.covT {k : Nat} (hk : k < O.length) (h : ldr os xs (gi O k) = gi O k) (y : Int) (h0 : 0 ≤ y) (h1 : y < prodL os) : (CovK os xs O k y ∨ ∃ j, j < xs.length ∧ y = Ar os (gi O k) (gi xs j)) ↔ CovK os xs O (k + 1) y := by
  have hm := gi_mem hk
  have hmr := (hC.memO hO).1 hm
  unfold CovK
  rw [mem_take_succ hk]
  constructor
  · rintro (h2 | ⟨j, hj, rfl⟩)
    · exact ⟨h2.1, .inl h2.2⟩
    · exact ⟨hC.addO hO hm (hC.subO hO (gi_mem hj)), .inr (by rw [hC.coset hmr.1 hmr.2.1 (gi_mem hj), h])⟩
  · rintro ⟨h2, h3 | h3⟩
    · exact .inl ⟨h2, h3⟩
    · obtain ⟨g, hg, e⟩ := hC.same hmr.1 hmr.2.1 h0 h1 (by rw [h3, h])
      obtain ⟨j, hj, rfl⟩ := List.mem_iff_getElem.1 hg
      exact .inr ⟨j, hj, by rw [← gi_ext hj]; exact e⟩
/-- The number that the map holds does not turn as leaders are added. -/
theorem Cs.idx {k : Nat} {y : Int} (hc : CovK os xs O k y) : ldr os xs y ∈ ldL os xs O k := by
  have hy := (hC.memO hO).1 hc.1
  unfold ldL
  rw [List.mem_filter]
  exact ⟨hc.2, by simpa using hC.ldr_ldr hy.1 hy.2.1⟩
theorem Cs.notL {k : Nat} (hk : k < O.length) : gi O k ∉ ldL os xs O k := fun h => by
  have := (hC.taken hO hk (gi_mem hk)).1 (ldL_sub _ h)
  omega
/-- The end: all elements of the orthogonal list are known. -/
theorem Cs.covEnd {y : Int} (hy : y ∈ O) : CovK os xs O O.length y := ⟨hy, by rw [List.take_length]; exact hC.ldrO hO hy⟩
theorem Cs.lrng {k : Nat} : ∀ x ∈ ldL os xs O k, x ∈ O ∧ 0 ≤ x ∧ x < prodL os := fun x hx => by
  have h1 := List.mem_of_mem_take (ldL_sub _ hx)
  have := (hC.memO hO).1 h1
  exact ⟨h1, this.1, this.2.1⟩
end
end Go.Proofs.Ytnoemhmmaicakaa
