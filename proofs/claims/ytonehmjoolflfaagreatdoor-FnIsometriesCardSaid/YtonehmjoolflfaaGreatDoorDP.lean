
/- What l10Small draws, told plainly; a metric's result and the source. -/
import Derived.Test.YtonehmjoolflfaaGreatDoorDAa
import Derived.Test.YtonehmjoolflfaaGreatDoorXEa
import Derived.Test.YtonehmjoolflfaaGreatDoorW3a
namespace Go.Proofs.YtonehmjoolflfaaGreatDoor
open Go Go.RowKit Grp
set_option linter.unusedSimpArgs false
set_option linter.unusedVariables false

/-- A metric's shape, of at most so many elements, or of two. -/
structure Sml (most : Int) (os : List Int) (q : Int) (vs : List Int) : Prop where
  ok : Ok0 os q vs
  le : prodL os ≤ most ∨ prodL os ≤ 2
  ne : 2 ≤ most → os ≠ []
/-- It returned a metric of its own, which it drew from the source. -/
def DrM (w0 : World) (B S : Nat) (A : Option Addr) (n c lo : Nat) (E : Option Int) (w : World) (R : List Int → Int → List Int → Prop) (e : Ending) (w' : World) : Prop :=
  ∃ v1 v2 os q vs, e = .returned (.agg #[v1, .int .i64 q, v2]) ∧ R os q vs ∧ Ow w' w.heap.size v1 os ∧ Ow w' w.heap.size v2 vs ∧ Apart v1 v2 ∧ SrcE w0 B S A n c lo E w' ∧ w.grownBy w' (some S)
/-- How many draws a leaf takes behind the hash g. -/
def lfh (g : Int) : Nat := if drw g 6 = 0 then 3 else if drw g 6 = 1 then 5 + 2 * (drw (ticks g 2) 3).toNat else 4 + 2 * (drw (ticks g 1) 3).toNat
theorem ticks_add (g : Int) (a b : Nat) : ticks (ticks g a) b = ticks g (a + b) := by
  induction b with
  | zero => rfl
  | succ b ih => rw [← Nat.add_assoc]; simp only [ticks, ih]
/-- What is claimed of the hash behind a leaf. -/
structure LfF (most : Int) (E F : Option Int) : Prop where
  big : 2 ≤ most → F = none
  no : E = none → F = none
  lf : ∀ g, E = some g → drw g 6 ≠ 2 → F = none ∨ F = some (ticks g (lfh g))
section
variable {w0 w w' : World} {B S : Nat} {A : Option Addr} {n c lo lo' : Nat} {E F X : Option Int}
theorem SrcE.to (h : SrcE w0 B S A n c lo' X w) (hl : lo ≤ lo') (hF : F = none ∨ F = X) : SrcE w0 B S A n c lo F w := by
  rcases hF with rfl | rfl
  · exact h.no.less hl
  · exact h.less hl
theorem map_tick2 : (E.map tick).map tick = E.map fun g => ticks g 2 := by cases E <;> rfl
theorem map_tick3 : ((E.map tick).map tick).map tick = E.map fun g => ticks g 3 := by cases E <;> rfl
theorem LfF.case0 {most x : Int} (h : LfF most E F) (hx : ∀ g, E = some g → x = drw g 6) (h0 : x = 0) : F = none ∨ F = ((E.map tick).map tick).map tick := by
  cases E with
  | none => exact .inl (h.no rfl)
  | some g =>
    have e := hx g rfl
    rcases h.lf g rfl (by omega) with h1 | h1
    · exact .inl h1
    · exact .inr (h1.trans (by unfold lfh; rw [if_pos (by omega)]; rfl))
theorem LfF.case1 {most x : Int} (h : LfF most E F) (hx : ∀ g, E = some g → x = drw g 6) (h1 : x = 1) : F = none ∨ F = eOrd most ((E.map tick).map tick) := by
  by_cases hm : 2 ≤ most
  · exact .inl (h.big hm)
  cases E with
  | none => exact .inl (h.no rfl)
  | some g =>
    have e := hx g rfl
    rcases h.lf g rfl (by omega) with h2 | h2
    · exact .inl h2
    · refine .inr (h2.trans ?_)
      unfold lfh eOrd
      rw [if_neg (by omega), if_pos (by omega), if_pos (by omega)]
      show some (ticks g (5 + 2 * (drw (ticks g 2) 3).toNat)) = some (ticks (ticks g 2) (3 + 2 * (drw (ticks g 2) 3).toNat))
      rw [ticks_add]; congr 2; omega
theorem LfF.case3 {most x : Int} (h : LfF most E F) (hx : ∀ g, E = some g → x = drw g 6) (h0 : x ≠ 0) (h1 : x ≠ 1) (h2 : x ≠ 2) : F = none ∨ F = eOrd most (E.map tick) := by
  by_cases hm : 2 ≤ most
  · exact .inl (h.big hm)
  cases E with
  | none => exact .inl (h.no rfl)
  | some g =>
    have e := hx g rfl
    rcases h.lf g rfl (by omega) with h3 | h3
    · exact .inl h3
    · refine .inr (h3.trans ?_)
      unfold lfh eOrd
      rw [if_neg (by omega), if_neg (by omega), if_pos (by omega)]
      show some (ticks g (4 + 2 * (drw (ticks g 1) 3).toNat)) = some (ticks (ticks g 1) (3 + 2 * (drw (ticks g 1) 3).toNat))
      rw [ticks_add]; congr 2; omega
theorem grown_put3 {row : Option Nat} {R : Nat} (h : w.grownBy w' row) (hR : w.heap.size ≤ R) (x y z : Value) : w.grownBy (put3 w' R x y z) row := grown_below h (put3_below (Below.refl _ _) hR)
theorem SrcE.put3 {R : Nat} (h : SrcE w0 B S A n c lo E w) (hR : R ≠ S) (hB : B ≤ R) (x y z : Value) : SrcE w0 B S A n c lo E (put3 w R x y z) := ((h.store hR hB x).store hR hB y).store hR hB z
/-- The result's slot (block R) takes the metric. -/
theorem drM_fin {wx : World} {R : Nat} {v1 v2 : Value} {os vs : List Int} {q : Int} {P : List Int → Int → List Int → Prop} (hR : R = w.heap.size) (hSR : S < w.heap.size) (hBw : B ≤ w.heap.size) (hP : P os q vs) (bR : Blk wx R 26 #[.slice none 0 0, .int .i64 0, .slice none 0 0])
    (h1 : Ow wx w.heap.size v1 os) (h2 : Ow wx w.heap.size v2 vs) (ha : Apart v1 v2) (hs : SrcE w0 B S A n c lo' X wx) (hl : lo ≤ lo') (hF : F = none ∨ F = X) (hg : w.grownBy wx (some S)) :
    DrM w0 B S A n c lo F w P (.returned (.agg #[v1, .int .i64 q, v2])) (put3 wx R v1 (.int .i64 q) v2) :=
  ⟨v1, v2, os, q, vs, rfl, hP, put3_own bR (by decide) h1, put3_own bR (by decide) h2, ha, (hs.to hl hF).put3 (by omega) (by omega) _ _ _, grown_put3 hg (by omega) _ _ _⟩
end
theorem cyc_sml {most : Int} {k : Nat} {a q : Int} (hk : (k : Int) ∈ [2, 3, 4, 5, 7, 8, 9, 11, 12]) (h : (k : Int) ≤ most ∨ (k : Int) = 2) (hq : q = if (k : Int) % 2 = 0 then 2 * (k : Int) else k) : Sml most [(k : Int)] q (cycTo a q k) := by
  have hp : prodL [(k : Int)] = k := by show (k : Int) * 1 = k; omega
  have h1 : 2 ≤ (k : Int) ∧ (k : Int) ≤ 12 := by simp at hk; omega
  have h2 : 1 ≤ q ∧ q ≤ 24 ∧ 55440 % q = 0 := by
    simp at hk
    rcases hk with e | e | e | e | e | e | e | e | e <;> (rw [e] at hq; simp at hq; subst hq; decide)
  refine ⟨⟨by simp, fun m hm => by simp at hm; omega, by rw [hp]; omega, h2.1, by omega, h2.2.2, by rw [cycTo_len, hp], fun v hv => ?_⟩, by rw [hp]; omega, fun _ => by simp⟩
  unfold cycTo at hv
  obtain ⟨x, _, rfl⟩ := List.mem_map.1 hv
  exact ⟨Int.emod_nonneg _ (by omega), Int.emod_lt_of_pos _ (by omega)⟩
theorem hyp_sml {most : Int} {k : Nat} (h2 : 2 ≤ k) (h4 : k ≤ 4) (h : (k : Int) * k ≤ most) : Sml most [(k : Int), k] k (hypTo k k) := by
  have hp : prodL [(k : Int), k] = k * k := by show (k : Int) * (k * 1) = k * k; rw [Int.mul_one]
  have hk : k = 2 ∨ k = 3 ∨ k = 4 := by omega
  have hkk : (k : Int) * k ≤ 16 := by rcases hk with rfl | rfl | rfl <;> decide
  refine ⟨⟨by simp, fun m hm => by simp at hm; omega, by rw [hp]; exact hkk, by omega, by omega, by rcases hk with rfl | rfl | rfl <;> decide, by rw [hypTo_len, hp]; simp, fun v hv => ?_⟩, by rw [hp]; exact .inl h, fun _ => by simp⟩
  unfold hypTo at hv
  obtain ⟨x, _, hv⟩ := List.mem_flatMap.1 hv
  unfold hypRow at hv
  obtain ⟨y, _, rfl⟩ := List.mem_map.1 hv
  exact ⟨Int.emod_nonneg _ (by omega), Int.emod_lt_of_pos _ (by omega)⟩
theorem nil_sml {most : Int} (h : most ≤ 1) : Sml most [] 2 [0] := by
  refine ⟨⟨by simp, by simp, by simp [prodL], by omega, by omega, by decide, by simp [prodL], by simp⟩, .inr (by simp [prodL]), fun h => by omega⟩
/-- What l10From makes out of orders that were drawn. -/
theorem from_sml {most : Int} {os sq pr : List Int} {D : Int} {N : Nat} (h1 : OrdP most os) (hm : most ≤ 16) (h2 : 2 ≤ most) (hD : 1 ≤ D) (hD2 : D ≤ 55440) (hd : 55440 % D = 0) (hN : prodL os = N) : Sml most os D (fromL os D sq pr N) := by
  obtain ⟨g1, g2, g3, g4, g5⟩ := h1
  refine ⟨⟨by omega, fun m hm => by have := g1 m hm; omega, by omega, hD, hD2, hd, by rw [fromL_len]; exact hN.symm, fun v hv => ?_⟩, by omega, g5⟩
  unfold fromL at hv
  obtain ⟨x, _, rfl⟩ := List.mem_map.1 hv
  exact ⟨Int.emod_nonneg _ (by omega), Int.emod_lt_of_pos _ (by omega)⟩
theorem sum_sml {most : Int} {os1 os2 vs1 vs2 : List Int} {D1 D2 q e D e1 e2 : Nat} (h1 : Ok0 os1 D1 vs1) (h2 : Ok0 os2 D2 vs2) (hQ : SumQ D1 D2 q e D e1 e2) (hl : os1.length + os2.length ≤ 4) (hp : prodL os1 * prodL os2 ≤ most) (hm : most ≤ 16) (hn : 2 ≤ most → os1 ++ os2 ≠ []) :
    Sml most (os1 ++ os2) D (sumL D e1 e2 vs1 vs2) := by
  have hdv : 55440 % (D : Int) = 0 := by
    have d1 : D1 ∣ 55440 := Nat.dvd_of_mod_eq_zero (Int.ofNat.inj (show Int.ofNat (55440 % D1) = Int.ofNat 0 from h1.dv))
    have d2 : D2 ∣ 55440 := Nat.dvd_of_mod_eq_zero (Int.ofNat.inj (show Int.ofNat (55440 % D2) = Int.ofNat 0 from h2.dv))
    have e : D = Nat.lcm D1 D2 := by
      rw [← hQ.mul, ← hQ.div, ← hQ.gcd]
      unfold Nat.lcm
      rw [Nat.mul_comm D1 D2, Nat.mul_div_assoc _ (Nat.gcd_dvd_left D1 D2), Nat.mul_comm]
    have := Nat.mod_eq_zero_of_dvd (Nat.lcm_dvd d1 d2)
    rw [← e] at this
    exact congrArg Int.ofNat this
  refine ⟨⟨by rw [List.length_append]; exact hl, fun m hm => ?_, by rw [prodL_append]; omega, by have := hQ.b1; omega, by have := hQ.b; omega, hdv, ?_, fun v hv => ?_⟩, by rw [prodL_append]; exact .inl hp, hn⟩
  · rcases List.mem_append.1 hm with h | h
    · exact h1.m2 m h
    · exact h2.m2 m h
  · rw [sumL_len, prodL_append, ← h1.len, ← h2.len]; simp
  · unfold sumL sumR at hv
    obtain ⟨a, _, hv⟩ := List.mem_flatMap.1 hv
    obtain ⟨b, _, rfl⟩ := List.mem_map.1 hv
    have := hQ.b1
    exact ⟨Int.emod_nonneg _ (by omega), Int.emod_lt_of_pos _ (by omega)⟩
theorem m_sml {most : Int} {os1 os2 vs1 vs2 : List Int} {D1 D2 : Int} (h1 : Sml (most / 2) os1 D1 vs1) (h2 : Sml (most / prodL os1) os2 D2 vs2) (m0 : 0 ≤ most) (hn : ¬ (prodL os1 * prodL os2 ≤ most ∧ (os1.length : Int) + (os2.length : Int) ≤ 4)) : Sml most os1 D1 vs1 := by
  refine ⟨h1.ok, by have := h1.le; omega, fun h2m e => hn ?_⟩
  subst e
  have hp : prodL [] = 1 := rfl
  rw [hp, Int.ediv_one] at h2
  have h3 := h2.le
  have h4 := h2.ok.l4
  rw [hp]
  exact ⟨by omega, by simp; omega⟩
theorem cat_ne {most : Int} {os1 os2 vs2 : List Int} {D2 : Int} (h2 : Sml (most / prodL os1) os2 D2 vs2) : 2 ≤ most → os1 ++ os2 ≠ [] := by
  intro hm e
  have h := List.append_eq_nil_iff.1 e
  obtain ⟨rfl, rfl⟩ := h
  have hp : prodL [] = 1 := rfl
  rw [hp, Int.ediv_one] at h2
  exact h2.ne hm rfl
theorem Sml.rng1 {most : Int} {os vs : List Int} {q : Int} (h : Sml most os q vs) : ∀ x ∈ os, i64ok x := fun x hx => by have := h.ok.m2 x hx; exact ⟨by omega, by omega⟩
theorem Sml.rng2 {most : Int} {os vs : List Int} {q : Int} (h : Sml most os q vs) : ∀ x ∈ vs, i64ok x := fun x hx => by have := h.ok.rng x hx; have := h.ok.d2; exact ⟨by omega, by omega⟩
/-- The orders, squares and products so far. -/
structure OrdS (w0 : World) (B S : Nat) (A : Option Addr) (n c lo : Nat) (w : World) (R : Nat) (vo v1 v2 : Value) (os sq pr : List Int) (wr : World) : Prop where
  src : Src w0 B S A n c lo wr
  keep : w.grownBy wr (some S)
  res : Blk wr R 26 #[.slice none 0 0, .int .i64 0, .slice none 0 0]
  o : Ow wr w.heap.size vo os
  s : Ow wr w.heap.size v1 sq
  p : Ow wr w.heap.size v2 pr
  ao : Apart vo v1
  ap : Apart vo v2
  sp : Apart v1 v2
section
variable {w0 w wr w' : World} {B S : Nat} {A : Option Addr} {n c lo R : Nat} {vo v1 v2 : Value} {os sq pr : List Int}
theorem OrdS.drewN (h : OrdS w0 B S A n c lo w R vo v1 v2 os sq pr wr) (m : Nat) : OrdS w0 B S A n c lo w R vo v1 v2 os sq pr (wr.drewN m) :=
  ⟨h.src.drewN m, h.keep.trans ⟨rfl, rfl, rfl, Nat.le_refl _, fun _ _ _ => rfl⟩, h.res.drewN m, h.o.drewN m, h.s.drewN m, h.p.drewN m, h.ao, h.ap, h.sp⟩
theorem OrdS.drew (h : OrdS w0 B S A n c lo w R vo v1 v2 os sq pr wr) : OrdS w0 B S A n c lo w R vo v1 v2 os sq pr wr.drew := h.drewN 1
theorem OrdS.dr (h : OrdS w0 B S A n c lo w R vo v1 v2 os sq pr wr) (hd : Dr wr w') : OrdS w0 B S A n c lo w R vo v1 v2 os sq pr w' := by obtain ⟨m, rfl⟩ := hd; exact h.drewN m
theorem OrdS.alloc (h : OrdS w0 B S A n c lo w R vo v1 v2 os sq pr wr) (o : Obj) : OrdS w0 B S A n c lo w R vo v1 v2 os sq pr (wr.alloc o) :=
  ⟨h.src.alloc o, h.keep.trans (World.grownBy_alloc _ _ _), h.res.alloc o, h.o.alloc o, h.s.alloc o, h.p.alloc o, h.ao, h.ap, h.sp⟩
/-- A draw. -/
theorem OrdS.call (h : OrdS w0 B S A n c lo w R vo v1 v2 os sq pr wr) (hR : R ≠ S) (hs : Src w0 B S A n c lo w') (hg : wr.grownBy w' (some S)) : OrdS w0 B S A n c lo w R vo v1 v2 os sq pr w' :=
  ⟨hs, h.keep.trans hg, h.res.grown hg (fun e => hR (Option.some.inj e).symm), h.o.far hg (h.src.ne h.o), h.s.far hg (h.src.ne h.s), h.p.far hg (h.src.ne h.p), h.ao, h.ap, h.sp⟩
theorem ow_ne {w : World} {B H : Nat} {v : Value} {xs : List Int} (h : Ow w B v xs) (hH : w.heap.size ≤ H) : ∀ b, v.ownBlock = some b → b ≠ H := fun b hb => by have := h.lt b hb; omega
theorem OrdS.pushS (h : OrdS w0 B S A n c lo w R vo v1 v2 os sq pr wr) (hBw : B ≤ w.heap.size) {y : Int} {H g cap : Nat} (hH : wr.heap.size ≤ H + 1) (hP : Pushed wr w.heap.size v1 sq y H g cap w') :
    OrdS w0 B S A n c lo w R vo (.slice (some ⟨g, 0, none⟩) (sq.length + 1) cap) v2 os (sq ++ [y]) pr w' := by
  have hz := h.keep.size
  exact ⟨h.src.push hP h.s hBw hz, grown_below h.keep (hP.below h.s hz), hP.blk h.s h.res (by decide), hP.far h.o h.ao, hP.own, hP.far h.p h.sp.symm, hP.apart (ow_ne h.o hH) h.ao, h.ap, (hP.apart (ow_ne h.p hH) h.sp.symm).symm⟩
theorem OrdS.pushP (h : OrdS w0 B S A n c lo w R vo v1 v2 os sq pr wr) (hBw : B ≤ w.heap.size) {y : Int} {H g cap : Nat} (hH : wr.heap.size ≤ H + 1) (hP : Pushed wr w.heap.size v2 pr y H g cap w') :
    OrdS w0 B S A n c lo w R vo v1 (.slice (some ⟨g, 0, none⟩) (pr.length + 1) cap) os sq (pr ++ [y]) w' := by
  have hz := h.keep.size
  exact ⟨h.src.push hP h.p hBw hz, grown_below h.keep (hP.below h.p hz), hP.blk h.p h.res (by decide), hP.far h.o h.ap, hP.far h.s h.sp, hP.own, h.ao, hP.apart (ow_ne h.o hH) h.ap, hP.apart (ow_ne h.s hH) h.sp⟩
end
theorem lcm_step {M m g e : Nat} (hg : Nat.gcd M m = g) (he : M / g = e) (h1 : 1 ≤ M) : 1 ≤ e ∧ 1 ≤ g ∧ e ≤ M := by
  have hp : 0 < Nat.gcd M m := Nat.gcd_pos_of_pos_left _ h1
  have hle := Nat.le_of_dvd h1 (Nat.gcd_dvd_left M m)
  have := Nat.div_pos hle hp
  have := Nat.div_le_self M (Nat.gcd M m)
  rw [hg] at *
  omega
theorem all_snoc {p : Int → Prop} {xs : List Int} {y : Int} (h : ∀ x ∈ xs, p x) (hy : p y) : ∀ x ∈ xs ++ [y], p x := fun x hx => by
  rcases List.mem_append.1 hx with h1 | h1
  · exact h x h1
  · rw [List.mem_singleton.1 h1]; exact hy
end Go.Proofs.YtonehmjoolflfaaGreatDoor
