
/- The dimensions of cocycles and coboundaries of small groups, told by ranks that the kernel computes. -/
import Derived.Test.YtnhgflmmfppmnaaRKE
import Derived.Test.YtnhgflmmfppmnaaIX
import Derived.Test.YtnhgflmmfppmnaaBD
namespace Go.Proofs.Ytnhgflmmfppmnaa
open Go Go.RowKit Grp Rk
set_option linter.unusedSimpArgs false
set_option linter.unusedVariables false
namespace Pk
theorem pack_set : ∀ (l : List Nat) (i v : Nat), i < l.length → pack (l.set i (l.getD i 0 + v)) = pack l + v * 65536 ^ i := by
  intro l
  induction l with
  | nil => intro i v h; simp at h
  | cons a r ih =>
    intro i v h
    cases i with
    | zero => show a + v + 65536 * pack r = a + 65536 * pack r + v * 65536 ^ 0; rw [Nat.pow_zero]; omega
    | succ i =>
      have h9 := ih i v (by simpa using h)
      show a + 65536 * pack (r.set i (r.getD i 0 + v)) = a + 65536 * pack r + v * 65536 ^ (i + 1)
      rw [h9, Nat.pow_succ, Nat.mul_add, Nat.mul_comm (65536 ^ i) 65536, Nat.mul_left_comm v]; omega
theorem pack_zero : ∀ M, pack (List.replicate M 0) = 0 := by
  intro M
  induction M with
  | zero => rfl
  | succ M ih => rw [List.replicate_succ]; show 0 + 65536 * pack _ = 0; rw [ih]
def bumpN (m N a b c v : Nat) : Nat := match a, b, c with
  | 0, _, _ => N
  | _, 0, _ => N
  | _, _, 0 => N
  | a + 1, b + 1, c + 1 => N + v * 65536 ^ ((a * m + b) * m + c + 2)
theorem bumpN_no {m N a b c v : Nat} (h : ¬ (0 < a ∧ 0 < b ∧ 0 < c)) : bumpN m N a b c v = N := by
  cases a with
  | zero => rfl
  | succ a => cases b with
    | zero => rfl
    | succ b => cases c with
      | zero => rfl
      | succ c => exact absurd ⟨by omega, by omega, by omega⟩ h
theorem bumpN_yes {m N a b c v : Nat} (h : 0 < a ∧ 0 < b ∧ 0 < c) : bumpN m N a b c v = N + v * 65536 ^ (ix m a b c + 2) := by
  cases a with
  | zero => omega
  | succ a => cases b with
    | zero => omega
    | succ b => cases c with
      | zero => omega
      | succ c => rfl
theorem Rep.bump {p m M q N : Nat} {L : List Int} {a b c v : Nat} {v' : Int} (hp : 2 ≤ p) (h : Rep p M q N L) (hi : 0 < a ∧ 0 < b ∧ 0 < c → ix m a b c < M) (hv : v' = v ∨ v' = (v : Int) - p) (hvp : v ≤ p) :
    Rep p M (q + p) (bumpN m N a b c v) (Go.Proofs.Ytnhgflmmfppmnaa.bump p m L a b c v') := by
  by_cases h0 : 0 < a ∧ 0 < b ∧ 0 < c
  · rw [bumpN_yes h0, bump_yes h0]
    have hx := hi h0
    obtain ⟨i, hii⟩ : ∃ i, ix m a b c = i := ⟨_, rfl⟩
    rw [hii] at hx ⊢
    obtain ⟨t, l, rfl, h0', h1, h2, h3, h4⟩ := h
    refine ⟨t, l.set i (l.getD i 0 + v), by rw [pack_set l i v (by omega), Nat.pow_add, show (65536 : Nat) ^ 2 = 4294967296 from rfl, Nat.mul_add, ← Nat.mul_assoc v, Nat.mul_comm (v * 65536 ^ i)]; omega, by omega, by simp [h1], fun x hx2 => ?_, by simp [h3], fun j hj => ?_⟩
    · rcases List.mem_or_eq_of_mem_set hx2 with hm | rfl
      · have := h2 x hm; omega
      · have := h2 _ (getD_mem (l := l) (j := i) (by omega)); omega
    · rw [gi_set (by rw [h3]; exact hj)]
      have hs : (l.set i (l.getD i 0 + v)).getD j 0 = if j = i then l.getD i 0 + v else l.getD j 0 := by
        rw [List.getD_eq_getElem?_getD, List.getElem?_set]
        by_cases e : i = j
        · subst e; rw [if_pos rfl, if_pos (by omega), if_pos rfl]; rfl
        · rw [if_neg e, if_neg (fun e2 => e e2.symm), List.getD_eq_getElem?_getD]
      rw [hs]
      by_cases e : j = i
      · subst e
        rw [if_pos rfl, if_pos rfl, h4 j hj]
        rcases hv with rfl | rfl
        · norm_cast; rw [Nat.mod_add_mod]
        · rw [show ((l.getD j 0 % p : Nat) : Int) + ((v : Int) - p) = ((l.getD j 0 % p + v : Nat) : Int) - p by omega, Int.sub_emod_right]
          norm_cast; rw [Nat.mod_add_mod]
      · rw [if_neg e, if_neg e, h4 j hj]
  · rw [bumpN_no h0, bump_no h0]
    exact h.more (by omega)
theorem Rep.start {p M t : Nat} (ht : t ≤ 20000) : Rep p M 0 t (List.replicate M 0) :=
  ⟨t, List.replicate M 0, by rw [pack_zero]; omega, by omega, by simp, fun a ha => by rw [(List.mem_replicate.1 ha).2]; exact Nat.le_refl _, by simp, fun j hj => by
    rw [gi_rep, List.getD_eq_getElem?_getD, List.getElem?_replicate, if_pos hj]; simp⟩
/-- An equation, packed. -/
def eqN (os : List Int) (p n x y z t : Nat) : Nat :=
  bumpN (n - 1) (bumpN (n - 1) (bumpN (n - 1) (bumpN (n - 1) (bumpN (n - 1) (x * 1551 + y * 397 + z * 61 + t * 7) y z t 1) (An os x y) z t (p - 1)) x (An os y z) t 1) x y (An os z t) (p - 1)) x y z 1
theorem eqN_rep {os : List Int} (h : OkH os) {p n x y z t : Nat} (hp : 2 ≤ p) (hp7 : p ≤ 7) (hn : (n : Int) = prodL os) (hn7 : n ≤ 6) (hx : 1 ≤ x ∧ x < n) (hy : 1 ≤ y ∧ y < n) (hz : 1 ≤ z ∧ z < n) (ht : 1 ≤ t ∧ t < n) :
    Rep p ((n - 1) * (n - 1) * (n - 1)) 100 (eqN os p n x y z t) (eqRow os p n x y z t) := by
  have hA : ∀ a b : Nat, An os a b < n := fun a b => by have := arH_rng h (a : Int) (b : Int); unfold An; omega
  unfold eqN eqRow
  refine ((((((Rep.start (p := p) (M := (n - 1) * (n - 1) * (n - 1)) (t := x * 1551 + y * 397 + z * 61 + t * 7) (by omega)).bump (v := 1) (v' := 1) hp (fun hh => ix_lt hh.1 (by omega) hh.2.1 (by omega) hh.2.2 (by omega)) (.inl rfl) (by omega)).bump (v := p - 1) (v' := -1) hp (fun hh => ix_lt hh.1 (by have := hA x y; omega) hh.2.1 (by omega) hh.2.2 (by omega)) (.inr (by omega)) (by omega)).bump (v := 1) (v' := 1) hp (fun hh => ix_lt hh.1 (by omega) hh.2.1 (by have := hA y z; omega) hh.2.2 (by omega)) (.inl rfl) (by omega)).bump (v := p - 1) (v' := -1) hp (fun hh => ix_lt hh.1 (by omega) hh.2.1 (by omega) hh.2.2 (by have := hA z t; omega)) (.inr (by omega)) (by omega)).bump (v := 1) (v' := 1) hp (fun hh => ix_lt hh.1 (by omega) hh.2.1 (by omega) hh.2.2 (by omega)) (.inl rfl) (by omega)).more (by omega)
def quads (k : Nat) : List (Nat × Nat × Nat × Nat) := (List.range k).flatMap fun x => (List.range k).flatMap fun y => (List.range k).flatMap fun z => (List.range k).map fun t => (x + 1, y + 1, z + 1, t + 1)
theorem quads_mem {k : Nat} {q : Nat × Nat × Nat × Nat} : q ∈ quads k ↔ ∃ x y z t, (x < k ∧ y < k ∧ z < k ∧ t < k) ∧ q = (x + 1, y + 1, z + 1, t + 1) := by
  unfold quads
  simp only [List.mem_flatMap, List.mem_map, List.mem_range]
  constructor
  · rintro ⟨x, hx, y, hy, z, hz, t, ht, rfl⟩; exact ⟨x, y, z, t, ⟨hx, hy, hz, ht⟩, rfl⟩
  · rintro ⟨x, y, z, t, ⟨hx, hy, hz, ht⟩, rfl⟩; exact ⟨x, hx, y, hy, z, hz, t, ht, rfl⟩
def eqNs (os : List Int) (p n : Nat) : List Nat := (quads (n - 1)).map fun q => eqN os p n q.1 q.2.1 q.2.2.1 q.2.2.2
def eqLs (os : List Int) (p n : Nat) : List (List Int) := (quads (n - 1)).map fun q => eqRow os p n q.1 q.2.1 q.2.2.1 q.2.2.2
theorem eq_rank {os : List Int} (h : OkH os) {p n k : Nat} (hP : Pr4 p) (hn : (n : Int) = prodL os) (hn7 : n ≤ 6) (hk : rankE p ((n - 1) * (n - 1) * (n - 1)) (eqNs os p n) = some k) : rkN p ((n - 1) * (n - 1) * (n - 1)) (EqG os p n) = k := by
  have hr := hP.rng
  have h1 := rankE_ok (p := p) (by omega) (by omega) (eqNs os p n) (eqLs os p n) (by simp [eqNs, eqLs]) (fun i r x hi hx => by
    unfold eqNs at hi
    unfold eqLs at hx
    rw [List.getElem?_map] at hi hx
    cases hq : (quads (n - 1))[i]? with
    | none => rw [hq] at hi; cases hi
    | some q =>
      rw [hq] at hi hx
      obtain ⟨a, b, c, d, hb, rfl⟩ := quads_mem.1 (List.mem_of_getElem? hq)
      simp only [Option.map_some, Option.some.injEq] at hi hx
      rw [← hi, ← hx]
      exact eqN_rep h (by omega) (by omega) hn hn7 ⟨by omega, by omega⟩ ⟨by omega, by omega⟩ ⟨by omega, by omega⟩ ⟨by omega, by omega⟩) hk
  refine rkN_eq hP.isP ?_
  have e : (fun v => ∃ x, x ∈ eqLs os p n ∧ v = vec x) = EqG os p n := by
    funext v
    apply propext
    unfold eqLs EqG
    constructor
    · rintro ⟨x, hx, rfl⟩
      obtain ⟨q, hq, rfl⟩ := List.mem_map.1 hx
      obtain ⟨a, b, c, d, hb, rfl⟩ := quads_mem.1 hq
      exact ⟨a + 1, b + 1, c + 1, d + 1, ⟨by omega, by omega⟩, ⟨by omega, by omega⟩, ⟨by omega, by omega⟩, ⟨by omega, by omega⟩, rfl⟩
    · rintro ⟨x, y, z, t, hx, hy, hz, ht, rfl⟩
      exact ⟨_, List.mem_map.2 ⟨(x, y, z, t), quads_mem.2 ⟨x - 1, y - 1, z - 1, t - 1, ⟨by omega, by omega, by omega, by omega⟩, by simp only [Prod.mk.injEq]; omega⟩, rfl⟩, rfl⟩
  rw [← e]; exact h1
def natL (L : List Int) : Nat := pack (L.map Int.toNat) % 19997 + 4294967296 * pack (L.map Int.toNat)
theorem natL_rep {p M : Nat} {L : List Int} (h : In01 p M L) (hp7 : p ≤ 7) : Rep p M 100 (natL L) L := by
  refine ⟨pack (L.map Int.toNat) % 19997, L.map Int.toNat, rfl, by omega, by simp [h.1], fun a ha => ?_, h.1, fun j hj => ?_⟩
  · obtain ⟨x, hx, rfl⟩ := List.mem_map.1 ha
    obtain ⟨j, hj, rfl⟩ := List.getElem_of_mem hx
    have := h.2 j (by rw [← h.1]; exact hj)
    unfold gi at this
    rw [List.getD_eq_getElem?_getD, List.getElem?_eq_getElem hj] at this
    simp only [Option.getD_some] at this
    omega
  · have h9 := h.2 j hj
    have e : (L.map Int.toNat).getD j 0 = (gi L j).toNat := by
      unfold gi
      rw [List.getD_eq_getElem?_getD, List.getD_eq_getElem?_getD, List.getElem?_map, List.getElem?_eq_getElem (by rw [h.1]; exact hj)]
      rfl
    rw [e, Nat.mod_eq_of_lt (by omega)]
    omega
theorem bd_rank {os : List Int} {p n k : Nat} (hP : Pr4 p) (hk : rankE p (n * (n * n)) ((blL os p n n 1).map natL) = some k) : rkN p (n * (n * n)) (GenL (blL os p n n 1) (blL os p n n 1).length) = k := by
  have hr := hP.rng
  have h1 := rankE_ok (p := p) (by omega) (by omega) ((blL os p n n 1).map natL) (blL os p n n 1) (by simp) (fun i r x hi hx => by
    rw [List.getElem?_map, hx] at hi
    simp only [Option.map_some, Option.some.injEq] at hi
    rw [← hi]
    exact natL_rep (blL_in (by omega) x (List.mem_of_getElem? hx)) (by omega)) hk
  refine rkN_eq hP.isP ?_
  have e : (fun v => ∃ x, x ∈ blL os p n n 1 ∧ v = vec x) = GenL (blL os p n n 1) (blL os p n n 1).length := by
    funext v
    exact propext genL_mem.symm
  rw [← e]; exact h1
end Pk
end Go.Proofs.Ytnhgflmmfppmnaa
