
/- The walk of Metric.pair. -/
import Derived.Test.YtneflhachjlmkaaI2
import Derived.WalkLawsBesides
namespace Go.Proofs.Ytneflhachjlmkaa
open Go Go.RowKit Grp
set_option linter.unusedSimpArgs false
set_option linter.unusedVariables false

set_option maxHeartbeats 1000000 in
theorem pair_any (w : World) (A : Option Addr) (n c : Nat) (os : List Int) (D : Int) (A' : Option Addr) (n' c' : Nat) (vs : List Int) (x y : Nat)
    (h : Sl w w.heap.size A n c os) (h' : Sl w w.heap.size A' n' c' vs) (hM : OkM os D vs) (hx : (x : Int) < prodL os) (hy : (y : Int) < prodL os) :
    Calls Try.prog 112 #[.agg #[.slice A n c, .int .i64 D, .slice A' n' c'], .int .i64 x, .int .i64 y] w (Re w (.int .i64 (Pr os D vs x y))) := by
  obtain rfl := h'.len
  have hG := hM.g
  have hp16 := hM.g.p16
  have d1 := hM.d1
  have d2 := hM.d2
  obtain ⟨z, hz⟩ : ∃ z : Nat, Ar os x y = (z : Int) := ⟨(Ar os x y).toNat, by have := Ar_rng hM.g x y; omega⟩
  have hzl : (z : Int) < prodL os := by have := Ar_rng hM.g x y; omega
  obtain ⟨lx, vx0, vx1⟩ := hM.vl hx
  obtain ⟨ly, vy0, vy1⟩ := hM.vl hy
  obtain ⟨lz, vz0, vz1⟩ := hM.vl hzl
  obtain ⟨b, off, rfl, hb, hc⟩ := h'.at_ (by omega)
  have hP : Pr os D vs x y = (gi vs z - gi vs x - gi vs y) % D := by unfold Pr Vl; rw [hz]; rfl
  have hPP := hide hP
  have hZ := hide hz
  clear hP
  obtain ⟨vx, ex⟩ : ∃ vx, gi vs x = vx := ⟨_, rfl⟩
  obtain ⟨vy, ey⟩ : ∃ vy, gi vs y = vy := ⟨_, rfl⟩
  obtain ⟨vz, ez⟩ : ∃ vz, gi vs z = vz := ⟨_, rfl⟩
  have c1 := hc x lx
  have c2 := hc y ly
  have c3 := hc z lz
  clear hc
  rw [ex] at c1 vx0 vx1 hPP
  rw [ey] at c2 vy0 vy1 hPP
  rw [ez] at c3 vz0 vz1 hPP
  clear ex ey ez
  have t1 : IntKind.i64.wrap (vz - vx) = vz - vx := wrap_in (by omega) (by omega)
  have t2 : IntKind.i64.wrap (vz - vx - vy) = vz - vx - vy := wrap_in (by omega) (by omega)
  go_enter Try.func112, Try.ntmps112
  go_wp2
  obtain ⟨W, hW⟩ : ∃ W, w.alloc (.cells #[.slice A n c, .int .i64 D, .slice (some ⟨b, off, none⟩) vs.length c'] 28) = W := ⟨_, rfl⟩
  have hbW : Below w.heap.size w W := by rw [← hW]; exact (by repeat (first | assumption | exact Below.refl _ _ | apply below_drewN | apply Below.drew | apply Below.alloc | apply Below.setCell | omega | (focus (simp; done)) | (focus (simp; omega))))
  have hszW : w.heap.size < W.heap.size := by rw [← hW]; simp
  have q0 : W.cell? ⟨w.heap.size, 0, none⟩ = some (.slice A n c) := by rw [← hW]; exact (Blk.new _ _ _).cell 0
  have q1 : W.cell? ⟨w.heap.size, 1, none⟩ = some (.int .i64 D) := by rw [← hW]; exact (Blk.new _ _ _).cell 1
  have q2 : W.cell? ⟨w.heap.size, 2, none⟩ = some (.slice (some ⟨b, off, none⟩) vs.length c') := by rw [← hW]; exact (Blk.new _ _ _).cell 2
  rw [hW]
  clear hW
  have hbG : b < W.heap.size := by omega
  have c1 := (hbW.cell (p := ⟨b, off + x, none⟩) hb).trans c1
  have c2 := (hbW.cell (p := ⟨b, off + y, none⟩) hb).trans c2
  have c3 := (hbW.cell (p := ⟨b, off + z, none⟩) hb).trans c3
  have hs := h.below hbW
  have hsl : ∀ wd, Below W.heap.size W wd → Sl wd wd.heap.size A n c os := fun wd h => (hs.below (h.mono (Nat.le_of_lt hszW))).more (by have := h.size; omega)
  refine wp_region_be [0, 1, 2, 3, 4, 5, 9, 10, 11, 12, 13, 15, 16, 17, 18, 19, 6, 7, 8, 14, 20, 21, 22] 22 W.heap.size W (by kernel_rfl) (by kernel_rfl) (by kernel_rfl) (fun _ _ _ _ _ h => h) (Below.refl _ _) (fun wd hBe => ?_)
  repeat (first | (apply ord_tk rfl (by rfl) (by rfl) (by rfl); (focus (intro wx hSw; have r0 := (hSw.cell (p := ⟨w.heap.size, 0, none⟩) hszW).trans q0; have r1 := (hSw.cell (p := ⟨w.heap.size, 1, none⟩) hszW).trans q1; have r2 := (hSw.cell (p := ⟨w.heap.size, 2, none⟩) hszW).trans q2; have r3 := (hSw.cell (p := ⟨b, off + x, none⟩) hbG).trans c1; have r4 := (hSw.cell (p := ⟨b, off + y, none⟩) hbG).trans c2; have r5 := (hSw.cell (p := ⟨b, off + z, none⟩) hbG).trans c3; go_simp; (try with_reducible rfl))); (try simp only [Act.put, List.setIfInBounds_toArray, List.set_cons_zero, List.set_cons_succ])) | (apply ord_skip rfl (by rfl) (by rfl) (fun _ => hBe); (try simp only [Act.put, List.setIfInBounds_toArray, List.set_cons_zero, List.set_cons_succ])))
  refine ord_do rfl (by rfl) (by rfl) (fun K hK => ?_)
  go_simp
  refine (plus_any _ _ _ _ _ _ _ _ _ (hsl _ hBe) hG (by omega) (by omega) (by omega) (by omega)).mono ?_
  rintro e wd' ⟨rfl, hwd⟩
  replace hBe := hBe.trans (hwd.mono hBe.size)
  clear hwd
  refine hK.out _ _ (fun _ => hBe) ?_
  (try simp only [Act.put, List.setIfInBounds_toArray, List.set_cons_zero, List.set_cons_succ])
  clear hK K
  rw [hz]
  repeat (first | (apply ord_tk rfl (by rfl) (by rfl) (by rfl); (focus (intro wx hSw; have r0 := (hSw.cell (p := ⟨w.heap.size, 0, none⟩) hszW).trans q0; have r1 := (hSw.cell (p := ⟨w.heap.size, 1, none⟩) hszW).trans q1; have r2 := (hSw.cell (p := ⟨w.heap.size, 2, none⟩) hszW).trans q2; have r3 := (hSw.cell (p := ⟨b, off + x, none⟩) hbG).trans c1; have r4 := (hSw.cell (p := ⟨b, off + y, none⟩) hbG).trans c2; have r5 := (hSw.cell (p := ⟨b, off + z, none⟩) hbG).trans c3; go_simp; (try with_reducible rfl))); (try simp only [Act.put, List.setIfInBounds_toArray, List.set_cons_zero, List.set_cons_succ])) | (apply ord_skip rfl (by rfl) (by rfl) (fun _ => hBe); (try simp only [Act.put, List.setIfInBounds_toArray, List.set_cons_zero, List.set_cons_succ])))
  refine ord_do rfl (by rfl) (by rfl) (fun K hK => ?_)
  go_simp
  refine (rest_any _ _ _ _ _ d1 (by omega)).mono ?_
  rintro e wd' ⟨rfl, hwd⟩
  replace hBe := hBe.trans (hwd.mono hBe.size)
  clear hwd
  refine hK.out _ _ (fun _ => hBe) ?_
  (try simp only [Act.put, List.setIfInBounds_toArray, List.set_cons_zero, List.set_cons_succ])
  clear hK K
  repeat (first | (apply ord_tk rfl (by rfl) (by rfl) (by rfl); (focus (intro wx hSw; have r0 := (hSw.cell (p := ⟨w.heap.size, 0, none⟩) hszW).trans q0; have r1 := (hSw.cell (p := ⟨w.heap.size, 1, none⟩) hszW).trans q1; have r2 := (hSw.cell (p := ⟨w.heap.size, 2, none⟩) hszW).trans q2; have r3 := (hSw.cell (p := ⟨b, off + x, none⟩) hbG).trans c1; have r4 := (hSw.cell (p := ⟨b, off + y, none⟩) hbG).trans c2; have r5 := (hSw.cell (p := ⟨b, off + z, none⟩) hbG).trans c3; go_simp; (try with_reducible rfl))); (try simp only [Act.put, List.setIfInBounds_toArray, List.set_cons_zero, List.set_cons_succ])) | (apply ord_skip rfl (by rfl) (by rfl) (fun _ => hBe); (try simp only [Act.put, List.setIfInBounds_toArray, List.set_cons_zero, List.set_cons_succ])))
  refine ord_do rfl (by rfl) (by rfl) (fun K hK => ?_)
  go_simp
  refine hK.out _ _ (fun h => absurd h (by omega)) ?_
  (try simp only [Act.put, List.setIfInBounds_toArray, List.set_cons_zero, List.set_cons_succ])
  clear hK K
  refine ord_nil ?_
  go_wp2
  go_ret
  exact ⟨by rw [hPP.out]; rfl, hbW.trans (hBe.mono (Nat.le_of_lt hszW))⟩
end Go.Proofs.Ytneflhachjlmkaa
