
/- The walk of l10Pair. -/
import Derived.Test.YtneflhachjlmkaaS4
import Derived.Test.YtneflhachjlmkaaOd
import Derived.WalkLawsBesides
namespace Go.Proofs.Ytneflhachjlmkaa
open Go Go.RowKit Grp
set_option linter.unusedSimpArgs false
set_option linter.unusedVariables false

/-- Lists that make a metric up to its law: valid orders, a modulus, as many values as elements, each less than the modulus. -/
structure OkM (os : List Int) (D : Int) (vs : List Int) : Prop where
  g : OkG os
  d1 : 1 ≤ D
  d2 : D ≤ 55440
  len : (vs.length : Int) = prodL os
  rng : ∀ v ∈ vs, 0 ≤ v ∧ v < D
/-- A value, and the pairing of two elements. -/
def Vl (vs : List Int) (x : Int) : Int := gi vs x.toNat
def Pr (os : List Int) (D : Int) (vs : List Int) (x y : Int) : Int := (Vl vs (Ar os x y) - Vl vs x - Vl vs y) % D
theorem OkM.vl {os vs : List Int} {D : Int} (h : OkM os D vs) {k : Nat} (hk : (k : Int) < prodL os) : k < vs.length ∧ 0 ≤ gi vs k ∧ gi vs k < D := by
  have hl := h.len
  have : k < vs.length := by omega
  exact ⟨this, h.rng _ (gi_mem this)⟩
theorem OkM.lt {os vs : List Int} {D : Int} (h : OkM os D vs) : vs.length ≤ 16 := by have := h.len; have := h.g.p16; omega
theorem Pr_rng {os vs : List Int} {D : Int} (h : OkM os D vs) (x y : Int) : 0 ≤ Pr os D vs x y ∧ Pr os D vs x y < D := em h.d1

set_option maxHeartbeats 1000000 in
theorem l10Pair_any (w : World) (A : Option Addr) (n c : Nat) (os : List Int) (D : Int) (A' : Option Addr) (n' c' : Nat) (vs : List Int) (x y : Nat)
    (h : Sl w w.heap.size A n c os) (h' : Sl w w.heap.size A' n' c' vs) (hM : OkM os D vs) (hx : (x : Int) < prodL os) (hy : (y : Int) < prodL os) :
    Calls Try.prog 114 #[.agg #[.slice A n c, .int .i64 D, .slice A' n' c'], .int .i64 x, .int .i64 y] w (Re w (.int .i64 (Pr os D vs x y))) := by
  obtain rfl := h'.len
  have hp16 := hM.g.p16
  have d1 := hM.d1
  have d2 := hM.d2
  obtain ⟨z, hz⟩ : ∃ z : Nat, Ar os x y = (z : Int) := ⟨(Ar os x y).toNat, by have := Ar_rng hM.g x y; omega⟩
  have hzl : (z : Int) < prodL os := by have := Ar_rng hM.g x y; omega
  obtain ⟨lx, vx0, vx1⟩ := hM.vl hx
  obtain ⟨ly, vy0, vy1⟩ := hM.vl hy
  obtain ⟨lz, vz0, vz1⟩ := hM.vl hzl
  obtain ⟨b, off, rfl, hb, hc⟩ := h'.at_ (by omega)
  have c1 := hc x lx
  have c2 := hc y ly
  have c3 := hc z lz
  have hP : Pr os D vs x y = (gi vs z - gi vs x - gi vs y) % D := by unfold Pr Vl; rw [hz]; rfl
  have hPP := hide hP
  have hZ := hide hz
  clear hc hP
  obtain ⟨vx, ex⟩ : ∃ vx, gi vs x = vx := ⟨_, rfl⟩
  obtain ⟨vy, ey⟩ : ∃ vy, gi vs y = vy := ⟨_, rfl⟩
  obtain ⟨vz, ez⟩ : ∃ vz, gi vs z = vz := ⟨_, rfl⟩
  rw [ex] at c1 vx0 vx1 hPP
  rw [ey] at c2 vy0 vy1 hPP
  rw [ez] at c3 vz0 vz1 hPP
  clear ex ey ez
  have t1 : IntKind.i64.wrap (vz - vx) = vz - vx := wrap_in (by omega) (by omega)
  have t2 : IntKind.i64.wrap (vz - vx - vy) = vz - vx - vy := wrap_in (by omega) (by omega)
  have t3 : ¬ D = 0 := by omega
  have t4 := rest_eq (vz - vx - vy) D d1
  have t5 : IntKind.i64.wrap ((vz - vx - vy).tmod D + D) = (vz - vx - vy).tmod D + D := by
    refine wrap_in ?_ ?_
    · have := Int.lt_tmod_of_pos (vz - vx - vy) (show 0 < D by omega); omega
    · have := Int.tmod_lt_of_pos (vz - vx - vy) (show 0 < D by omega); omega
  go_enter Try.func114, Try.ntmps114
  go_wp2
  refine wp_region_dr [0, 1, 2, 3, 4, 5, 9, 10, 11, 12, 13, 15, 16, 17, 18, 19, 6, 7, 8, 14, 20, 21] 21 (w.alloc (.cells #[.slice A n c, .int .i64 D, .slice (some ⟨b, off, none⟩) vs.length c'] 28)) (by kernel_rfl) (by kernel_rfl) (by kernel_rfl) (fun _ _ _ _ _ h => h) (Dr.refl _) (fun wd hDr => ?_)
  repeat (first | (apply ord_tk rfl (by rfl) (by rfl) (by rfl); (focus (rintro w ⟨dm, rfl⟩; go_simp; (try with_reducible rfl))); (try simp only [Act.put, List.setIfInBounds_toArray, List.set_cons_zero, List.set_cons_succ])) | (apply ord_skip rfl (by rfl) (by rfl) (fun _ => hDr); (try simp only [Act.put, List.setIfInBounds_toArray, List.set_cons_zero, List.set_cons_succ])))
  refine ord_do rfl (by rfl) (by rfl) (fun K hK => ?_)
  go_simp
  refine (l10Add_any _ _ _ _ _ _ _ _ (h.below (hDr.below (by repeat (first | assumption | exact Below.refl _ _ | apply below_drewN | apply Below.drew | apply Below.alloc | apply Below.setCell | omega | (focus (simp; done)) | (focus (simp; omega)))))) hM.g (by omega) (by omega) (by omega) (by omega)).mono ?_
  rintro e wd' ⟨rfl, dm, hwd⟩
  replace hDr := hDr.step hwd
  clear hwd
  refine hK.out _ _ (fun _ => hDr) ?_
  (try simp only [Act.put, List.setIfInBounds_toArray, List.set_cons_zero, List.set_cons_succ])
  clear hK K
  rw [hz]
  repeat (first | (apply ord_tk rfl (by rfl) (by rfl) (by rfl); (focus (rintro w ⟨dm, rfl⟩; go_simp; (try with_reducible rfl))); (try simp only [Act.put, List.setIfInBounds_toArray, List.set_cons_zero, List.set_cons_succ])) | (apply ord_skip rfl (by rfl) (by rfl) (fun _ => hDr); (try simp only [Act.put, List.setIfInBounds_toArray, List.set_cons_zero, List.set_cons_succ])))
  refine ord_do rfl (by rfl) (by rfl) (fun K hK => ?_)
  go_simp
  refine hK.out _ _ (fun h => absurd h (by omega)) ?_
  (try simp only [Act.put, List.setIfInBounds_toArray, List.set_cons_zero, List.set_cons_succ])
  clear hK K
  refine ord_nil ?_
  go_wp2
  refine wp_region_dr [0, 1, 2, 3, 4, 5, 6, 7, 8, 9, 10] 10 (w.alloc (.cells #[.slice A n c, .int .i64 D, .slice (some ⟨b, off, none⟩) vs.length c'] 28)) (by kernel_rfl) (by kernel_rfl) (by kernel_rfl) (fun _ _ _ _ _ h => h) hDr (fun wd hDr => ?_)
  repeat (first | (apply ord_tk rfl (by rfl) (by rfl) (by rfl); (focus (rintro w ⟨dm, rfl⟩; go_simp; (try with_reducible rfl))); (try simp only [Act.put, List.setIfInBounds_toArray, List.set_cons_zero, List.set_cons_succ])) | (apply ord_skip rfl (by rfl) (by rfl) (fun _ => hDr); (try simp only [Act.put, List.setIfInBounds_toArray, List.set_cons_zero, List.set_cons_succ])))
  refine ord_do rfl (by rfl) (by rfl) (fun K hK => ?_)
  go_simp
  refine hK.out _ _ (fun h => absurd h (by omega)) ?_
  (try simp only [Act.put, List.setIfInBounds_toArray, List.set_cons_zero, List.set_cons_succ])
  clear hK K
  refine ord_nil ?_
  go_wp2
  go_ret
  exact ⟨by rw [hPP.out]; rfl, hDr.below (by repeat (first | assumption | exact Below.refl _ _ | apply below_drewN | apply Below.drew | apply Below.alloc | apply Below.setCell | omega | (focus (simp; done)) | (focus (simp; omega))))⟩
end Go.Proofs.Ytneflhachjlmkaa
