
/- The walks of l10Alike and of the closure value of eachIsometry. -/
import Derived.Test.YtkekgipeagchcaaIM0
import Derived.WalkLawsBesides
namespace Go.Proofs.Ytkekgipeagchcaa
open Go Go.RowKit Grp
set_option linter.unusedSimpArgs false
set_option linter.unusedVariables false
set_option maxRecDepth 100000
theorem ord_div {D : Int} (h : ordB D = true) (h1 : 1 ≤ D) : D * ((55440 : Int) / D) = 55440 := by
  exact Int.mul_ediv_cancel' (Int.dvd_of_emod_eq_zero (ordB_iff.1 h).2)
set_option maxHeartbeats 2000000 in
theorem l10Alike_any (w : World) (o1 : Value) (D : Int) (B : Option Addr) (m k : Nat) (vs : List Int) (o2 : Value) (E : Int) (B' : Option Addr) (m' k' : Nat) (us : List Int) (x y : Nat)
    (g : Sl w w.heap.size B m k vs) (g' : Sl w w.heap.size B' m' k' us) (hD : 1 ≤ D ∧ D ≤ 55440) (hE : 1 ≤ E ∧ E ≤ 55440) (hv : ∀ v ∈ vs, 0 ≤ v ∧ v < D) (hu : ∀ v ∈ us, 0 ≤ v ∧ v < E) (hx : x < vs.length) (hy : y < us.length)
    (A1 : Option Addr) (n1 c1 : Nat) (e1 : o1 = .slice A1 n1 c1) (A2 : Option Addr) (n2 c2 : Nat) (e2 : o2 = .slice A2 n2 c2) :
    Calls Try.prog 73 #[.agg #[o1, .int .i64 D, .slice B m k], .agg #[o2, .int .i64 E, .slice B' m' k'], .int .i64 x, .int .i64 y] w (Re w (.bool (alB D E (gi vs x) (gi us y)))) := by
  subst e1 e2
  obtain rfl := g.len
  obtain rfl := g'.len
  obtain ⟨b, off, rfl, hb, hc⟩ := g.at_ (by omega)
  obtain ⟨b', off', rfl, hb', hc'⟩ := g'.at_ (by omega)
  have k1 := hc x hx
  have k2 := hc' y hy
  have v1 := hv _ (gi_mem hx)
  have v2 := hu _ (gi_mem hy)
  clear hc hc'
  obtain ⟨a, ea⟩ : ∃ a, gi vs x = a := ⟨_, rfl⟩
  obtain ⟨d, ed⟩ : ∃ d, gi us y = d := ⟨_, rfl⟩
  rw [ea] at k1 v1 ⊢
  rw [ed] at k2 v2 ⊢
  clear ea ed
  have p1 : 0 ≤ a * E := Int.mul_nonneg (by omega) (by omega)
  have p2 : a * E ≤ 55440 * 55440 := Int.mul_le_mul (by omega) (by omega) (by omega) (by omega)
  have p3 : 0 ≤ d * D := Int.mul_nonneg (by omega) (by omega)
  have p4 : d * D ≤ 55440 * 55440 := Int.mul_le_mul (by omega) (by omega) (by omega) (by omega)
  have hX := hide (show (a * E == d * D) = alB D E a d from rfl)
  obtain ⟨P, eP⟩ : ∃ P, a * E = P := ⟨_, rfl⟩
  obtain ⟨Q, eQ⟩ : ∃ Q, d * D = Q := ⟨_, rfl⟩
  rw [eP, eQ] at hX
  rw [eP] at p1 p2
  rw [eQ] at p3 p4
  have t1 : IntKind.i64.wrap (a * E) = P := by rw [eP]; exact wrap_in (by omega) (by omega)
  have t2 : IntKind.i64.wrap (d * D) = Q := by rw [eQ]; exact wrap_in (by omega) (by omega)
  have i0 : (0 : Int) ≤ x := by omega
  have i1 : (x : Int) < (vs.length : Int) := by omega
  have i2 : (0 : Int) ≤ y := by omega
  have i3 : (y : Int) < (us.length : Int) := by omega
  clear eP eQ
  go_enter Try.func73, Try.ntmps73
  go_wp2_with fail
  obtain ⟨W, hW⟩ : ∃ W, (w.alloc (.cells #[.slice A1 n1 c1, .int .i64 D, .slice (some ⟨b, off, none⟩) vs.length k] 28)).alloc (.cells #[.slice A2 n2 c2, .int .i64 E, .slice (some ⟨b', off', none⟩) us.length k'] 28) = W := ⟨_, rfl⟩
  have hbW : Below w.heap.size w W := by rw [← hW]; exact (by repeat (first | assumption | exact Below.refl _ _ | apply below_drewN | apply Below.drew | apply Below.alloc | apply Below.setCell | omega | (focus (simp; done)) | (focus (simp; omega))))
  have bm : Blk W w.heap.size 28 #[.slice A1 n1 c1, .int .i64 D, .slice (some ⟨b, off, none⟩) vs.length k] := by rw [← hW]; exact (Blk.new _ _ _).alloc _
  have bn : Blk W (w.heap.size + 1) 28 #[.slice A2 n2 c2, .int .i64 E, .slice (some ⟨b', off', none⟩) us.length k'] := by rw [← hW]; exact Blk.new' _ _ _ _ (by simp)
  have q1 := bm.cell 1
  have q2 := bm.cell 2
  have r1 := bn.cell 1
  have r2 := bn.cell 2
  have d1 := (hbW.cell (p := ⟨b, off + x, none⟩) hb).trans k1
  have d2 := (hbW.cell (p := ⟨b', off' + y, none⟩) hb').trans k2
  rw [hW]
  clear hW k1 k2 bm bn
  refine wp_region_dr [0, 1, 2, 3, 4, 5, 6, 7, 8, 9, 10, 11, 12, 13, 14, 15, 16, 17] 17 W (by kernel_rfl) (by kernel_rfl) (by kernel_rfl) (fun _ _ _ _ _ h => h) (Dr.refl _) (fun wd hDr => ?_)
  repeat (first | (apply ord_tk rfl (by rfl) (by rfl) (by rfl); (focus (rintro w ⟨dm, rfl⟩; go_simp; (try with_reducible rfl))); (try simp only [Act.put, List.setIfInBounds_toArray, List.set_cons_zero, List.set_cons_succ])) | (apply ord_skip rfl (by rfl) (by rfl) (fun _ => hDr); (try simp only [Act.put, List.setIfInBounds_toArray, List.set_cons_zero, List.set_cons_succ])))
  refine ord_do rfl (by rfl) (by rfl) (fun K hK => ?_)
  go_simp
  refine hK.out _ _ (fun h => absurd h (by omega)) ?_
  (try simp only [Act.put, List.setIfInBounds_toArray, List.set_cons_zero, List.set_cons_succ])
  clear hK K
  refine ord_nil ?_
  go_wp2_with fail
  go_ret
  exact ⟨by rw [← hX.out]; (try simp [bne]), hDr.below hbW⟩
set_option maxHeartbeats 2000000 in
theorem valF_any (w : World) (D : Int) (B : Option Addr) (m k : Nat) (vs : List Int) (x : Nat) (g : Sl w w.heap.size B m k vs) (hD : 1 ≤ D ∧ D ≤ 55440) (hv : ∀ v ∈ vs, 0 ≤ v ∧ v < D) (hx : x < vs.length) (A1 : Option Addr) (n1 c1 : Nat) :
    Calls Try.prog 55 #[.agg #[.slice A1 n1 c1, .int .i64 D, .slice B m k], .int .i64 x] w (Re w (.int .i64 (gi vs x * (55440 / D)))) := by
  obtain rfl := g.len
  obtain ⟨b, off, rfl, hb, hc⟩ := g.at_ (by omega)
  have k1 := hc x hx
  have v1 := hv _ (gi_mem hx)
  clear hc
  obtain ⟨a, ea⟩ : ∃ a, gi vs x = a := ⟨_, rfl⟩
  rw [ea] at k1 v1 ⊢
  clear ea
  obtain ⟨q, eq⟩ : ∃ q, (55440 : Int) / D = q := ⟨_, rfl⟩
  have q0 : 0 ≤ q := by rw [← eq]; exact Int.ediv_nonneg (by omega) (by omega)
  have q1 : q ≤ 55440 := by rw [← eq]; exact Int.ediv_le_self _ (by omega)
  have t1 : (55440 : Int).tdiv D = q := by rw [Int.tdiv_eq_ediv_of_nonneg (by omega)]; exact eq
  have t2 : IntKind.i64.wrap q = q := wrap_in (by omega) (by omega)
  have p1 : 0 ≤ a * q := Int.mul_nonneg (by omega) (by omega)
  have p2 : a * q ≤ 55440 * 55440 := Int.mul_le_mul (by omega) (by omega) (by omega) (by omega)
  rw [eq]
  obtain ⟨P, eP⟩ : ∃ P, a * q = P := ⟨_, rfl⟩
  rw [eP] at p1 p2
  have t3 : IntKind.i64.wrap (a * q) = P := by rw [eP]; exact wrap_in (by omega) (by omega)
  have t4 : ¬ D = 0 := by omega
  have hP := hide eP
  have i0 : (0 : Int) ≤ x := by omega
  have i1 : (x : Int) < (vs.length : Int) := by omega
  clear eP
  go_enter Try.func55, Try.ntmps55
  go_wp2_with fail
  obtain ⟨W, hW⟩ : ∃ W, w.alloc (.cells #[.slice A1 n1 c1, .int .i64 D, .slice (some ⟨b, off, none⟩) vs.length k] 28) = W := ⟨_, rfl⟩
  have hbW : Below w.heap.size w W := by rw [← hW]; exact (by repeat (first | assumption | exact Below.refl _ _ | apply below_drewN | apply Below.drew | apply Below.alloc | apply Below.setCell | omega | (focus (simp; done)) | (focus (simp; omega))))
  have bm : Blk W w.heap.size 28 #[.slice A1 n1 c1, .int .i64 D, .slice (some ⟨b, off, none⟩) vs.length k] := by rw [← hW]; exact Blk.new _ _ _
  have q1 := bm.cell 1
  have q2 := bm.cell 2
  have d1 := (hbW.cell (p := ⟨b, off + x, none⟩) hb).trans k1
  rw [hW]
  clear hW k1 bm
  refine wp_region_dr [0, 1, 2, 3, 4, 5, 6, 7, 8, 9] 9 W (by kernel_rfl) (by kernel_rfl) (by kernel_rfl) (fun _ _ _ _ _ h => h) (Dr.refl _) (fun wd hDr => ?_)
  repeat (first | (apply ord_tk rfl (by rfl) (by rfl) (by rfl); (focus (rintro w ⟨dm, rfl⟩; go_simp; (try with_reducible rfl))); (try simp only [Act.put, List.setIfInBounds_toArray, List.set_cons_zero, List.set_cons_succ])) | (apply ord_skip rfl (by rfl) (by rfl) (fun _ => hDr); (try simp only [Act.put, List.setIfInBounds_toArray, List.set_cons_zero, List.set_cons_succ])))
  refine ord_do rfl (by rfl) (by rfl) (fun K hK => ?_)
  go_simp
  refine hK.out _ _ (fun h => absurd h (by omega)) ?_
  (try simp only [Act.put, List.setIfInBounds_toArray, List.set_cons_zero, List.set_cons_succ])
  clear hK K
  refine ord_nil ?_
  go_wp2_with fail
  go_ret
  exact ⟨by rw [hP.out]; rfl, hDr.below hbW⟩
end Go.Proofs.Ytkekgipeagchcaa
