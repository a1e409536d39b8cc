
/- The walks of ElementValue, MetricGauss of both sides. The walks of AddElements, NegateElement, PairElements, of both sides. mod5; what the Gauss sum of a metric is. (The part of G5 that asks no sums of metrics.) FnCondensations, plain: the Gauss sum, the table and the values of a condensation; Lagrangian subgroups leave one class. FnCondensations, plain: the table's rows and entries; lengths. The walks of slices.Index, slices.Contains over int64. The walks of IsAnisotropic, of both sides. FnAnisotropics, plain: the greatest isotropic subgroup leaves the value 1 at one leader alone, and all isotropic subgroups of this size leave the same values. -/
import Derived.Test.YtbpihnpakolooaaGreatDoorP1a
import Derived.Test.YtbpihnpakolooaaGreatDoorEa
import Derived.WalkLawsBesides
import Derived.Test.YtbpihnpakolooaaGreatDoorSBa
import Derived.Test.YtbpihnpakolooaaGreatDoorCma
import Derived.Test.YtbpihnpakolooaaGreatDoorQNb
namespace Go.Proofs.YtbpihnpakolooaaGreatDoor
open Go Go.RowKit Grp
set_option linter.unusedSimpArgs false
set_option linter.unusedVariables false
theorem rp_at {D v : Nat} (h : v < D) : rp D v = pwr (rtu D) v := by
 unfold rp; rw [Int.emod_eq_of_lt (by omega) (by omega)]; rfl

set_option maxHeartbeats 1000000 in
theorem impl_Val_any (w : World) (A : Option Addr) (n c : Nat) (os : List Int) (D : Int) (A' : Option Addr) (n' c' : Nat) (vs : List Int) (x : Int) (hx : i64ok x) (h : Sl w w.heap.size A n c os) (h' : Sl w w.heap.size A' n' c' vs) (hn : n ≤ 1048576) (hn' : n' ≤ 1048576) :
  Calls Tryz.prog 21 #[.agg #[.slice A n c, .int .i64 D, .slice A' n' c'], .int .i64 x] w (Re2 w (if codeE os D vs [x] = 0 then (rp D.toNat (Vl vs x) : Int) else 0) (codeE os D vs [x])) := by
 obtain rfl := h'.len
 have hcode := fun W A n c A' n' c' LL l lc => elementCode_any W A n c os D A' n' c' vs LL l lc [x]
 obtain ⟨k, hk⟩ : ∃ k, codeE os D vs [x] = k := ⟨_, rfl⟩
 have h0 : k = 0 → IsM os D vs ∧ allIn 0 (prodL os - 1) [x] = true := fun e => codeE_0 (hk.trans e)
 rw [hk] at hcode ⊢
 clear hk
 by_cases hk0 : k = 0
 ·subst hk0
  obtain ⟨hM, hin⟩ := h0 rfl
  clear h0
  rw [if_pos rfl]
  have hG := hM.ok.g
  have hp16 := hG.p16
  have hxr : 0 ≤ x ∧ x ≤ prodL os - 1 := allIn_gi hin (k := 0) (by simp)
  have hin' := hide hin
  clear hin
  obtain ⟨x, rfl⟩ : ∃ m : Nat, x = (m : Int) := ⟨x.toNat, by omega⟩
  have hd1 := hM.ok.d1
  have hd2 := hM.ok.d2
  obtain ⟨D, rfl⟩ : ∃ m : Nat, D = (m : Int) := ⟨D.toNat, by omega⟩
  obtain ⟨lx, vx0, vx1⟩ := hM.ok.vl (k := x) (by omega)
  obtain ⟨v, ev⟩ : ∃ v : Nat, gi vs x = (v : Int) := ⟨(gi vs x).toNat, by omega⟩
  have hR := hide (show rp (D : Int).toNat (Vl vs x) = rp D v by unfold Vl; rw [show ((x : Nat) : Int).toNat = x from rfl, ev]; rfl)
  obtain ⟨b, off, rfl, hb, hc⟩ := h'.at_ (by omega)
  have c1 := hc x lx
  rw [ev] at c1 vx0 vx1
  have hRP := hide (rp_at (D := D) (v := v) (by omega))
  clear ev hc
  go_enter Tryz.func21, Tryz.ntmps21
  go_wp2_with fail
  obtain ⟨W, hW⟩ : ∃ W, w.alloc (.cells #[.slice A n c, .int .i64 D, .slice (some ⟨b, off, none⟩) vs.length c'] 26) = W := ⟨_, rfl⟩
  have hbW : Below w.heap.size w W := by rw [← hW]; exact (by repeat (first | assumption | exact Below.refl _ _ | apply below_drewN | apply Below.drew | apply Below.alloc | apply Below.setCell | omega | (focus (simp; done)) | (focus (simp; omega))))
  have hszW : w.heap.size < W.heap.size := by rw [← hW]; simp
  have hsW := hide (show W.heap.size = w.heap.size + 1 by rw [← hW]; simp)
  have bM : Blk W w.heap.size 26 #[.slice A n c, .int .i64 D, .slice (some ⟨b, off, none⟩) vs.length c'] := by rw [← hW]; exact Blk.new _ _ _
  have q0 : W.cell? ⟨w.heap.size, 0, none⟩ = some (.slice A n c) := by rw [← hW]; exact (Blk.new _ _ _).cell 0
  have q1 : W.cell? ⟨w.heap.size, 1, none⟩ = some (.int .i64 D) := by rw [← hW]; exact (Blk.new _ _ _).cell 1
  have q2 : W.cell? ⟨w.heap.size, 2, none⟩ = some (.slice (some ⟨b, off, none⟩) vs.length c') := by rw [← hW]; exact (Blk.new _ _ _).cell 2
  rw [hW]
  clear hW
  have hs := (h.below hbW).more (Nat.le_of_lt hszW)
  have hs' := (h'.below hbW).more (Nat.le_of_lt hszW)
  have hsl : ∀ wd, Below W.heap.size W wd → Sl wd wd.heap.size A n c os := fun wd h => (hs.below h).more h.size
  have hsv : ∀ wd, Below W.heap.size W wd → Sl wd wd.heap.size (some ⟨b, off, none⟩) vs.length c' vs := fun wd h => (hs'.below h).more h.size
  have hbG : b < W.heap.size := by omega
  have c1 := (hbW.cell (p := ⟨b, off + x, none⟩) hb).trans c1
  refine (hcode _ _ _ _ _ _ _ _ _ _ (hsl _ ((Below.refl _ _).alloc (Nat.le_refl _) _)) (hsv _ ((Below.refl _ _).alloc (Nat.le_refl _) _)) (sl_one _ _ hsW.out _ hx) hn hn' (by omega)).mono ?_
  rintro e w2 ⟨rfl, hb2⟩
  have k2 := ((Below.refl W.heap.size W).alloc (Nat.le_refl _) _).trans (hb2.mono (by simp))
  go_wp2_with fail
  refine wp_region_be [0, 1, 2, 3, 4, 5, 6, 7, 8] 7 W.heap.size W (by kernel_rfl) (by kernel_rfl) (by kernel_rfl) (fun _ _ _ _ _ h => h) k2 (fun wd hBe => ?_)
  repeat (first | (apply ord_tk rfl (by rfl) (by rfl) (by rfl); (focus (intro wx hSw; have r0 := (hSw.cell (p := ⟨w.heap.size, 0, none⟩) hszW).trans q0; have r1 := (hSw.cell (p := ⟨w.heap.size, 1, none⟩) hszW).trans q1; have r2 := (hSw.cell (p := ⟨w.heap.size, 2, none⟩) hszW).trans q2; have r3 := (hSw.cell (p := ⟨b, off + x, none⟩) hbG).trans c1; go_simp; (try with_reducible rfl))); (try simp only [Act.put, List.setIfInBounds_toArray, List.set_cons_zero, List.set_cons_succ])) | (apply ord_skip rfl (by rfl) (by rfl) (fun _ => hBe); (try simp only [Act.put, List.setIfInBounds_toArray, List.set_cons_zero, List.set_cons_succ])))
  refine ord_do rfl (by rfl) (by rfl) (fun K hK => ?_)
  go_simp
  refine (rootPower_any _ _ _ _ _ _ _ _ _ (by omega) (by omega)).mono ?_
  rintro e wd' ⟨rfl, hwd⟩
  replace hBe := hBe.trans (hwd.mono hBe.size)
  clear hwd
  refine hK.out _ _ (fun _ => hBe) ?_
  (try simp only [Act.put, List.setIfInBounds_toArray, List.set_cons_zero, List.set_cons_succ])
  clear hK K
  repeat (first | (apply ord_tk rfl (by rfl) (by rfl) (by rfl); (focus (intro wx hSw; have r0 := (hSw.cell (p := ⟨w.heap.size, 0, none⟩) hszW).trans q0; have r1 := (hSw.cell (p := ⟨w.heap.size, 1, none⟩) hszW).trans q1; have r2 := (hSw.cell (p := ⟨w.heap.size, 2, none⟩) hszW).trans q2; have r3 := (hSw.cell (p := ⟨b, off + x, none⟩) hbG).trans c1; go_simp; (try with_reducible rfl))); (try simp only [Act.put, List.setIfInBounds_toArray, List.set_cons_zero, List.set_cons_succ])) | (apply ord_skip rfl (by rfl) (by rfl) (fun _ => hBe); (try simp only [Act.put, List.setIfInBounds_toArray, List.set_cons_zero, List.set_cons_succ])))
  refine ord_do rfl (by rfl) (by rfl) (fun K hK => ?_)
  go_simp
  refine hK.out _ _ (fun h => absurd h (by omega)) ?_
  (try simp only [Act.put, List.setIfInBounds_toArray, List.set_cons_zero, List.set_cons_succ])
  clear hK K
  refine ord_do rfl (by rfl) (by rfl) (fun K hK => ?_)
  go_simp
  refine hK.out _ _ (fun h => absurd h (by omega)) ?_
  (try simp only [Act.put, List.setIfInBounds_toArray, List.set_cons_zero, List.set_cons_succ])
  clear hK K
  refine ord_nil ?_
  go_wp2
  refine bodyPost_ret (v := .tuple #[.int .i64 (rp (D : Int).toNat (Vl vs x) : Int), .int .i64 0]) (by rw [hR.out]; simp [results, Tryz.results21, go_sem]) rfl ?_
  exact ⟨rfl, hbW.trans (hBe.mono (Nat.le_of_lt hszW))⟩
 ·clear h0
  rw [if_neg hk0]
  have hkb : (k != 0) = true := by simpa using hk0
  go_enter Tryz.func21, Tryz.ntmps21
  go_wp2_with fail
  obtain ⟨W, hW⟩ : ∃ W, w.alloc (.cells #[.slice A n c, .int .i64 D, .slice A' vs.length c'] 26) = W := ⟨_, rfl⟩
  have hbW : Below w.heap.size w W := by rw [← hW]; exact (by repeat (first | assumption | exact Below.refl _ _ | apply below_drewN | apply Below.drew | apply Below.alloc | apply Below.setCell | omega | (focus (simp; done)) | (focus (simp; omega))))
  have hszW : w.heap.size < W.heap.size := by rw [← hW]; simp
  have hsW := hide (show W.heap.size = w.heap.size + 1 by rw [← hW]; simp)
  have bM : Blk W w.heap.size 26 #[.slice A n c, .int .i64 D, .slice A' vs.length c'] := by rw [← hW]; exact Blk.new _ _ _
  have q0 : W.cell? ⟨w.heap.size, 0, none⟩ = some (.slice A n c) := by rw [← hW]; exact (Blk.new _ _ _).cell 0
  have q1 : W.cell? ⟨w.heap.size, 1, none⟩ = some (.int .i64 D) := by rw [← hW]; exact (Blk.new _ _ _).cell 1
  have q2 : W.cell? ⟨w.heap.size, 2, none⟩ = some (.slice A' vs.length c') := by rw [← hW]; exact (Blk.new _ _ _).cell 2
  rw [hW]
  clear hW
  have hs := (h.below hbW).more (Nat.le_of_lt hszW)
  have hs' := (h'.below hbW).more (Nat.le_of_lt hszW)
  have hsl : ∀ wd, Below W.heap.size W wd → Sl wd wd.heap.size A n c os := fun wd h => (hs.below h).more h.size
  have hsv : ∀ wd, Below W.heap.size W wd → Sl wd wd.heap.size A' vs.length c' vs := fun wd h => (hs'.below h).more h.size
  refine (hcode _ _ _ _ _ _ _ _ _ _ (hsl _ ((Below.refl _ _).alloc (Nat.le_refl _) _)) (hsv _ ((Below.refl _ _).alloc (Nat.le_refl _) _)) (sl_one _ _ hsW.out _ hx) hn hn' (by omega)).mono ?_
  rintro e w2 ⟨rfl, hb2⟩
  have k2 := ((Below.refl W.heap.size W).alloc (Nat.le_refl _) _).trans (hb2.mono (by simp))
  go_wp2_with fail
  refine bodyPost_ret (v := .tuple #[.int .i64 0, .int .i64 k]) (by simp [results, Tryz.results21, go_sem]) rfl ?_
  exact ⟨rfl, hbW.trans (k2.mono (Nat.le_of_lt hszW))⟩

noncomputable def codeG (os : List Int) (D : Int) (vs : List Int) (k : Int) : Int := if isM os D vs = true then if inB k (-100000) 100000 = true then 0 else 2 else 1
noncomputable def gaG (os : List Int) (D : Int) (vs : List Int) (k : Int) : Int := if codeG os D vs k = 0 then ((gsum D.toNat k vs % 55441 : Nat) : Int) else 0
set_option maxHeartbeats 1000000 in
theorem impl_Gauss_any (w : World) (A : Option Addr) (n c : Nat) (os : List Int) (D : Int) (A' : Option Addr) (n' c' : Nat) (vs : List Int) (k : Int) (h : Sl w w.heap.size A n c os) (h' : Sl w w.heap.size A' n' c' vs) (hn : n ≤ 1048576) (hn' : n' ≤ 1048576) :
  Calls Tryz.prog 14 #[.agg #[.slice A n c, .int .i64 D, .slice A' n' c'], .int .i64 k] w (Re2 w (gaG os D vs k) (codeG os D vs k)) := by
 obtain rfl := h'.len
 cases hm : isM os D vs with
 | false =>
  have hC := hide (show codeG os D vs k = 1 by unfold codeG; rw [hm]; rfl)
  have hGA := hide (show gaG os D vs k = 0 by unfold gaG; rw [if_neg (by rw [hC.out]; decide)])
  go_enter Tryz.func14, Tryz.ntmps14
  go_wp2_with fail
  obtain ⟨W, hW⟩ : ∃ W, w.alloc (.cells #[.slice A n c, .int .i64 D, .slice A' vs.length c'] 26) = W := ⟨_, rfl⟩
  have hbW : Below w.heap.size w W := by rw [← hW]; exact (by repeat (first | assumption | exact Below.refl _ _ | apply below_drewN | apply Below.drew | apply Below.alloc | apply Below.setCell | omega | (focus (simp; done)) | (focus (simp; omega))))
  have hszW : w.heap.size < W.heap.size := by rw [← hW]; simp
  have hsW := hide (show W.heap.size = w.heap.size + 1 by rw [← hW]; simp)
  have bM : Blk W w.heap.size 26 #[.slice A n c, .int .i64 D, .slice A' vs.length c'] := by rw [← hW]; exact Blk.new _ _ _
  have q0 : W.cell? ⟨w.heap.size, 0, none⟩ = some (.slice A n c) := by rw [← hW]; exact (Blk.new _ _ _).cell 0
  have q1 : W.cell? ⟨w.heap.size, 1, none⟩ = some (.int .i64 D) := by rw [← hW]; exact (Blk.new _ _ _).cell 1
  have q2 : W.cell? ⟨w.heap.size, 2, none⟩ = some (.slice A' vs.length c') := by rw [← hW]; exact (Blk.new _ _ _).cell 2
  rw [hW]
  clear hW
  have hs := (h.below hbW).more (Nat.le_of_lt hszW)
  have hs' := (h'.below hbW).more (Nat.le_of_lt hszW)
  go_wp2_with fail
  refine (implIs_v false _ _ _ _ _ _ _ _ _ _ hs hs' hn hn' hm).mono ?_
  rintro e w2 ⟨rfl, hb2⟩
  go_wp2_with fail
  refine bodyPost_ret (v := .tuple #[.int .i64 0, .int .i64 1]) (by simp [results, Tryz.results14, go_sem]) rfl ?_
  exact ⟨by rw [hC.out, hGA.out], hbW.trans (hb2.mono (Nat.le_of_lt hszW))⟩
 | true =>
  have hM := isM_iff.1 hm
  cases hi : inB k (-100000) 100000 with
  | false =>
   have hC := hide (show codeG os D vs k = 2 by unfold codeG; rw [hm, hi]; rfl)
   have hGA := hide (show gaG os D vs k = 0 by unfold gaG; rw [if_neg (by rw [hC.out]; decide)])
   go_enter Tryz.func14, Tryz.ntmps14
   go_wp2_with fail
   obtain ⟨W, hW⟩ : ∃ W, w.alloc (.cells #[.slice A n c, .int .i64 D, .slice A' vs.length c'] 26) = W := ⟨_, rfl⟩
   have hbW : Below w.heap.size w W := by rw [← hW]; exact (by repeat (first | assumption | exact Below.refl _ _ | apply below_drewN | apply Below.drew | apply Below.alloc | apply Below.setCell | omega | (focus (simp; done)) | (focus (simp; omega))))
   have hszW : w.heap.size < W.heap.size := by rw [← hW]; simp
   have hsW := hide (show W.heap.size = w.heap.size + 1 by rw [← hW]; simp)
   have bM : Blk W w.heap.size 26 #[.slice A n c, .int .i64 D, .slice A' vs.length c'] := by rw [← hW]; exact Blk.new _ _ _
   have q0 : W.cell? ⟨w.heap.size, 0, none⟩ = some (.slice A n c) := by rw [← hW]; exact (Blk.new _ _ _).cell 0
   have q1 : W.cell? ⟨w.heap.size, 1, none⟩ = some (.int .i64 D) := by rw [← hW]; exact (Blk.new _ _ _).cell 1
   have q2 : W.cell? ⟨w.heap.size, 2, none⟩ = some (.slice A' vs.length c') := by rw [← hW]; exact (Blk.new _ _ _).cell 2
   rw [hW]
   clear hW
   have hs := (h.below hbW).more (Nat.le_of_lt hszW)
   have hs' := (h'.below hbW).more (Nat.le_of_lt hszW)
   go_wp2_with fail
   refine (implIs_v true _ _ _ _ _ _ _ _ _ _ hs hs' hn hn' hm).mono ?_
   rintro e w2 ⟨rfl, hb2⟩
   go_wp2_with fail
   refine (within_v false _ _ _ _ hi).mono ?_
   rintro e w3 ⟨rfl, dm, rfl⟩
   go_wp2_with fail
   refine bodyPost_ret (v := .tuple #[.int .i64 0, .int .i64 2]) (by simp [results, Tryz.results14, go_sem]) rfl ?_
   exact ⟨by rw [hC.out, hGA.out], below_drewN (hbW.trans (hb2.mono (Nat.le_of_lt hszW))) _⟩
  | true =>
   have hC := hide (show codeG os D vs k = 0 by unfold codeG; rw [hm, hi]; rfl)
   have hGA := hide (show gaG os D vs k = ((gsum D.toNat k vs % 55441 : Nat) : Int) by unfold gaG; rw [if_pos hC.out])
   have hk01 : -100000 ≤ k ∧ k ≤ 100000 := by simpa [inB] using hi
   have hd1 := hM.ok.d1
   have hd2 := hM.ok.d2
   have hrg := hide hM.ok.rng
   obtain ⟨D, rfl⟩ : ∃ m : Nat, D = (m : Int) := ⟨D.toNat, by omega⟩
   obtain ⟨g, hg⟩ : ∃ g, gsum D k vs % 55441 = g := ⟨_, rfl⟩
   rw [show (D : Int).toNat = D from rfl, hg] at hGA
   go_enter Tryz.func14, Tryz.ntmps14
   go_wp2_with fail
   obtain ⟨W, hW⟩ : ∃ W, w.alloc (.cells #[.slice A n c, .int .i64 D, .slice A' vs.length c'] 26) = W := ⟨_, rfl⟩
   have hbW : Below w.heap.size w W := by rw [← hW]; exact (by repeat (first | assumption | exact Below.refl _ _ | apply below_drewN | apply Below.drew | apply Below.alloc | apply Below.setCell | omega | (focus (simp; done)) | (focus (simp; omega))))
   have hszW : w.heap.size < W.heap.size := by rw [← hW]; simp
   have hsW := hide (show W.heap.size = w.heap.size + 1 by rw [← hW]; simp)
   have bM : Blk W w.heap.size 26 #[.slice A n c, .int .i64 D, .slice A' vs.length c'] := by rw [← hW]; exact Blk.new _ _ _
   have q0 : W.cell? ⟨w.heap.size, 0, none⟩ = some (.slice A n c) := by rw [← hW]; exact (Blk.new _ _ _).cell 0
   have q1 : W.cell? ⟨w.heap.size, 1, none⟩ = some (.int .i64 D) := by rw [← hW]; exact (Blk.new _ _ _).cell 1
   have q2 : W.cell? ⟨w.heap.size, 2, none⟩ = some (.slice A' vs.length c') := by rw [← hW]; exact (Blk.new _ _ _).cell 2
   rw [hW]
   clear hW
   have hs := (h.below hbW).more (Nat.le_of_lt hszW)
   have hs' := (h'.below hbW).more (Nat.le_of_lt hszW)
   go_wp2_with fail
   refine (implIs_v true _ _ _ _ _ _ _ _ _ _ hs hs' hn hn' hm).mono ?_
   rintro e w2 ⟨rfl, hb2⟩
   go_wp2_with fail
   refine (within_v true _ _ _ _ hi).mono ?_
   rintro e w3 ⟨rfl, dm, rfl⟩
   have k3 : Below W.heap.size W (w2.drewN dm) := below_drewN hb2 _
   have r0 := (k3.cell (p := ⟨w.heap.size, 0, none⟩) hszW).trans q0
   have r1 := (k3.cell (p := ⟨w.heap.size, 1, none⟩) hszW).trans q1
   have r2 := (k3.cell (p := ⟨w.heap.size, 2, none⟩) hszW).trans q2
   go_wp2_with fail
   clear r0 r1 r2
   refine (gauss_any _ _ _ _ _ _ _ _ _ _ (by omega) (by omega) ((hs'.below k3).more k3.size) (by omega) hrg.out hk01.1 hk01.2).mono ?_
   rw [hg]
   rintro e w4 ⟨rfl, hb4⟩
   have k4 := k3.trans (hb4.mono k3.size)
   go_wp2_with fail
   refine bodyPost_ret (v := .tuple #[.int .i64 g, .int .i64 0]) (by simp [results, Tryz.results14, go_sem]) rfl ?_
   exact ⟨by rw [hC.out, hGA.out], hbW.trans (k4.mono (Nat.le_of_lt hszW))⟩

set_option maxHeartbeats 1000000 in
theorem impl_Add_any (w : World) (A : Option Addr) (n c : Nat) (os : List Int) (D : Int) (A' : Option Addr) (n' c' : Nat) (vs : List Int) (x y : Int) (hx : i64ok x) (hy : i64ok y) (h : Sl w w.heap.size A n c os) (h' : Sl w w.heap.size A' n' c' vs) (hn : n ≤ 1048576) (hn' : n' ≤ 1048576) :
  Calls Tryz.prog 20 #[.agg #[.slice A n c, .int .i64 D, .slice A' n' c'], .int .i64 x, .int .i64 y] w (Re2 w (if codeE os D vs [x, y] = 0 then (Ar os x y) else 0) (codeE os D vs [x, y])) := by
 obtain rfl := h'.len
 have hcode := fun W A n c A' n' c' LL l lc => elementCode_any W A n c os D A' n' c' vs LL l lc [x, y]
 obtain ⟨k, hk⟩ : ∃ k, codeE os D vs [x, y] = k := ⟨_, rfl⟩
 have h0 : k = 0 → IsM os D vs ∧ allIn 0 (prodL os - 1) [x, y] = true := fun e => codeE_0 (hk.trans e)
 rw [hk] at hcode ⊢
 clear hk
 by_cases hk0 : k = 0
 ·subst hk0
  obtain ⟨hM, hin⟩ := h0 rfl
  clear h0
  rw [if_pos rfl]
  have hG := hM.ok.g
  have hp16 := hG.p16
  have hxr : 0 ≤ x ∧ x ≤ prodL os - 1 := allIn_gi hin (k := 0) (by simp)
  have hyr : 0 ≤ y ∧ y ≤ prodL os - 1 := allIn_gi hin (k := 1) (by simp)
  have hin' := hide hin
  clear hin
  go_enter Tryz.func20, Tryz.ntmps20
  go_wp2_with fail
  obtain ⟨W, hW⟩ : ∃ W, w.alloc (.cells #[.slice A n c, .int .i64 D, .slice A' vs.length c'] 26) = W := ⟨_, rfl⟩
  have hbW : Below w.heap.size w W := by rw [← hW]; exact (by repeat (first | assumption | exact Below.refl _ _ | apply below_drewN | apply Below.drew | apply Below.alloc | apply Below.setCell | omega | (focus (simp; done)) | (focus (simp; omega))))
  have hszW : w.heap.size < W.heap.size := by rw [← hW]; simp
  have hsW := hide (show W.heap.size = w.heap.size + 1 by rw [← hW]; simp)
  have bM : Blk W w.heap.size 26 #[.slice A n c, .int .i64 D, .slice A' vs.length c'] := by rw [← hW]; exact Blk.new _ _ _
  have q0 : W.cell? ⟨w.heap.size, 0, none⟩ = some (.slice A n c) := by rw [← hW]; exact (Blk.new _ _ _).cell 0
  have q1 : W.cell? ⟨w.heap.size, 1, none⟩ = some (.int .i64 D) := by rw [← hW]; exact (Blk.new _ _ _).cell 1
  have q2 : W.cell? ⟨w.heap.size, 2, none⟩ = some (.slice A' vs.length c') := by rw [← hW]; exact (Blk.new _ _ _).cell 2
  rw [hW]
  clear hW
  have hs := (h.below hbW).more (Nat.le_of_lt hszW)
  have hs' := (h'.below hbW).more (Nat.le_of_lt hszW)
  have hsl : ∀ wd, Below W.heap.size W wd → Sl wd wd.heap.size A n c os := fun wd h => (hs.below h).more h.size
  have hsv : ∀ wd, Below W.heap.size W wd → Sl wd wd.heap.size A' vs.length c' vs := fun wd h => (hs'.below h).more h.size
  refine (hcode _ _ _ _ _ _ _ _ _ _ (hsl _ ((Below.refl _ _).alloc (Nat.le_refl _) _)) (hsv _ ((Below.refl _ _).alloc (Nat.le_refl _) _)) (sl_two _ _ hsW.out _ _ hx hy) hn hn' (by omega)).mono ?_
  rintro e w2 ⟨rfl, hb2⟩
  have k2 := ((Below.refl W.heap.size W).alloc (Nat.le_refl _) _).trans (hb2.mono (by simp))
  have r0 := (k2.cell (p := ⟨w.heap.size, 0, none⟩) hszW).trans q0
  have r1 := (k2.cell (p := ⟨w.heap.size, 1, none⟩) hszW).trans q1
  have r2 := (k2.cell (p := ⟨w.heap.size, 2, none⟩) hszW).trans q2
  go_wp2_with fail
  refine (plus_any _ _ _ _ _ _ _ _ _ (hsl _ k2) hG (by omega) (by omega) (by omega) (by omega)).mono ?_
  rintro e w3 ⟨rfl, hb3⟩
  have k3 := k2.trans (hb3.mono k2.size)
  go_wp2
  refine bodyPost_ret (v := .tuple #[.int .i64 (Ar os x y), .int .i64 0]) (by simp [results, Tryz.results20, go_sem]) rfl ?_
  exact ⟨rfl, hbW.trans (k3.mono (Nat.le_of_lt hszW))⟩
 ·clear h0
  rw [if_neg hk0]
  have hkb : (k != 0) = true := by simpa using hk0
  go_enter Tryz.func20, Tryz.ntmps20
  go_wp2_with fail
  obtain ⟨W, hW⟩ : ∃ W, w.alloc (.cells #[.slice A n c, .int .i64 D, .slice A' vs.length c'] 26) = W := ⟨_, rfl⟩
  have hbW : Below w.heap.size w W := by rw [← hW]; exact (by repeat (first | assumption | exact Below.refl _ _ | apply below_drewN | apply Below.drew | apply Below.alloc | apply Below.setCell | omega | (focus (simp; done)) | (focus (simp; omega))))
  have hszW : w.heap.size < W.heap.size := by rw [← hW]; simp
  have hsW := hide (show W.heap.size = w.heap.size + 1 by rw [← hW]; simp)
  have bM : Blk W w.heap.size 26 #[.slice A n c, .int .i64 D, .slice A' vs.length c'] := by rw [← hW]; exact Blk.new _ _ _
  have q0 : W.cell? ⟨w.heap.size, 0, none⟩ = some (.slice A n c) := by rw [← hW]; exact (Blk.new _ _ _).cell 0
  have q1 : W.cell? ⟨w.heap.size, 1, none⟩ = some (.int .i64 D) := by rw [← hW]; exact (Blk.new _ _ _).cell 1
  have q2 : W.cell? ⟨w.heap.size, 2, none⟩ = some (.slice A' vs.length c') := by rw [← hW]; exact (Blk.new _ _ _).cell 2
  rw [hW]
  clear hW
  have hs := (h.below hbW).more (Nat.le_of_lt hszW)
  have hs' := (h'.below hbW).more (Nat.le_of_lt hszW)
  have hsl : ∀ wd, Below W.heap.size W wd → Sl wd wd.heap.size A n c os := fun wd h => (hs.below h).more h.size
  have hsv : ∀ wd, Below W.heap.size W wd → Sl wd wd.heap.size A' vs.length c' vs := fun wd h => (hs'.below h).more h.size
  refine (hcode _ _ _ _ _ _ _ _ _ _ (hsl _ ((Below.refl _ _).alloc (Nat.le_refl _) _)) (hsv _ ((Below.refl _ _).alloc (Nat.le_refl _) _)) (sl_two _ _ hsW.out _ _ hx hy) hn hn' (by omega)).mono ?_
  rintro e w2 ⟨rfl, hb2⟩
  have k2 := ((Below.refl W.heap.size W).alloc (Nat.le_refl _) _).trans (hb2.mono (by simp))
  go_wp2_with fail
  refine bodyPost_ret (v := .tuple #[.int .i64 0, .int .i64 k]) (by simp [results, Tryz.results20, go_sem]) rfl ?_
  exact ⟨rfl, hbW.trans (k2.mono (Nat.le_of_lt hszW))⟩
theorem tmod_bd (n : Int) : -55441 < n.tmod 55441 ∧ n.tmod 55441 < 55441 ∧ (n.tmod 55441 + 55441) % 55441 = n % 55441 := by
 rcases Int.lt_or_le n 0 with h | h
 ·have e : n.tmod 55441 = -((-n) % 55441) := by
   have := Int.neg_tmod (-n) 55441
   rw [Int.neg_neg] at this
   rw [this, Int.tmod_eq_emod_of_nonneg (by omega)]
  rw [e]; omega
 ·rw [Int.tmod_eq_emod_of_nonneg h]; omega
theorem mod5_any (w : World) (n : Int) (h0 : -1000000000000 ≤ n) (h1 : n ≤ 1000000000000) : Calls Tryz.prog 18 #[.int .i64 n] w (Qt w (.int .i64 (n % 55441))) := by
 obtain ⟨b1, b2, b3⟩ := tmod_bd n
 have e1 : (n.tmod 55441 + 55441).tmod 55441 = n % 55441 := by rw [Int.tmod_eq_emod_of_nonneg (by omega), b3]
 have u0 : -55441 < n.tmod 55441 ∧ n.tmod 55441 < 55441 := ⟨b1, b2⟩
 clear b1 b2 b3
 obtain ⟨t, ht⟩ : ∃ t, n.tmod 55441 = t := ⟨_, rfl⟩
 rw [ht] at e1 u0
 have u1 : IntKind.i64.wrap (t + 55441) = t + 55441 := wr64 _ ⟨by omega, by omega⟩
 have u2 : IntKind.i64.wrap t = t := wr64 _ ⟨by omega, by omega⟩
 have E1 := hide e1
 go_enter Tryz.func18, Tryz.ntmps18
 go_wp2
 go_ret
 exact Qt.mk' 0 rfl (int_eq (by first | exact E1.out | (simp [ht]; done) | skip))
theorem codeG_0 {os vs : List Int} {D k : Int} (hM : IsM os D vs) (h : inB k (-100000) 100000 = true) : codeG os D vs k = 0 := by
 unfold codeG; rw [if_pos (isM_t hM), if_pos h]
theorem gaG_val {os vs : List Int} {D k : Int} (hM : IsM os D vs) (h : inB k (-100000) 100000 = true) : gaG os D vs k = ((gsum D.toNat k vs % 55441 : Nat) : Int) := by
 unfold gaG; rw [if_pos (codeG_0 hM h)]
theorem idxF_in {L : List Int} {v : Int} (h : v ∈ L) : 0 ≤ idxF L v ∧ idxF L v < L.length ∧ gi L (idxF L v).toNat = v := by
 unfold idxF
 rw [if_pos (hasB_iff.2 h)]
 have hx : ∃ x ∈ L, (x == v) = true := ⟨v, h, by simp⟩
 have hl := List.findIdx_lt_length_of_exists hx
 refine ⟨by omega, by omega, ?_⟩
 rw [Int.toNat_natCast]
 have := List.findIdx_getElem (w := hl)
 rw [gi_ext] at this
 ·simpa using this
section
variable {os vs xs : List Int} {D : Int}
theorem codeI_p (h : codeI os D vs xs = 0) : codeS os D vs xs = 0 ∧ isoB vs xs = true := by
 unfold codeI at h
 split at h
 ·rename_i h0
  split at h
  ·rename_i h1; exact ⟨h0, h1⟩
  ·omega
 ·rename_i h0; exact absurd h h0
theorem cd_none (h : codeI os D vs xs ≠ 0) : (decide (codeS os D vs xs ≠ 0) || !isB os D vs xs) = true := by
 unfold isB
 by_cases h0 : codeS os D vs xs = 0
 ·have : isoB vs xs = false := by
   cases hi : isoB vs xs with
   | false => rfl
   | true => exact absurd (codeI_t h0 hi) h
  simp [h0, this]
 ·simp [h0]
variable (hI : codeI os D vs xs = 0)
include hI
theorem cd_cs : Cs os D vs xs ∧ xs.Pairwise (· < ·) ∧ SbM os vs xs := by
 obtain ⟨h0, h1⟩ := codeI_p hI
 have hC := Cs.of h0 h1
 have hl := (codeS_0 h0).2.1.lt
 exact ⟨hC, hl, hC.sbM hl⟩
theorem cd_isB : isB os D vs xs = true ∧ codeS os D vs xs = 0 := by
 obtain ⟨h0, h1⟩ := codeI_p hI
 exact ⟨by unfold isB; simp [h0, h1], h0⟩
theorem cd_q : cqR os D vs xs = (ldP os D vs xs, ctab os xs (ldP os D vs xs), D, (ldP os D vs xs).map (Vl vs)) := by
 unfold cqR; rw [if_pos hI]; rfl
theorem cd_gauss : gaG os D vs 1 = ((xs.length : Int) * qgR os D vs xs) % 55441 := by
 obtain ⟨hC, hs, _⟩ := cd_cs hI
 have h1 := gauss_cond hC hs
 rw [gaG_val hC.m (by decide)]
 have h2 : qgR os D vs xs = ((gsum D.toNat 1 ((ldP os D vs xs).map (Vl vs)) % 55441 : Nat) : Int) := by unfold qgR; rw [cd_q hI]
 rw [h2]
 have h3 := (h1.trans (Cg.mul (Cg.rfl' _) (Cg.natMod _).symm)).emod
 rw [Int.natCast_emod]
 exact h3
theorem cd_sizes : (ldP os D vs xs).length * xs.length = (ortL os D vs xs vs.length).length := cos_size (cd_cs hI).1
theorem cd_vals : (voR os D vs xs).length = (ldP os D vs xs).length ∧ (voR os D vs xs).Perm ((ldP os D vs xs).map (Vl vs)) := by
 have hp : (voR os D vs xs).Perm ((ldP os D vs xs).map (Vl vs)) := by
  unfold voR
  rw [cd_q hI]
  exact List.mergeSort_perm _ _
 exact ⟨by rw [hp.length_eq, List.length_map], hp⟩
omit hI in
theorem ldP_mem {x : Int} : x ∈ ldP os D vs xs ↔ x ∈ ortL os D vs xs vs.length ∧ ldr os xs x = x := by
 unfold ldP ldL
 rw [List.take_length, List.mem_filter]
 simp
theorem ldP_rng {x : Int} (h : x ∈ ldP os D vs xs) : x ∈ ortL os D vs xs vs.length ∧ 0 ≤ x ∧ x < prodL os ∧ ldr os xs x = x := by
 obtain ⟨h1, h2⟩ := ldP_mem.1 h
 have := ((cd_cs hI).1.memO rfl).1 h1
 exact ⟨h1, this.1, this.2.1, h2⟩
omit hI in
theorem ldP_nd : (ldP os D vs xs).Nodup := by
 unfold ldP ldL
 rw [List.take_length]
 exact ((ortL_lt os vs xs D vs.length).imp fun {a b} (h : a < b) => (by omega : a ≠ b)).sublist List.filter_sublist
/-- The leader of the sum of two leaders. -/
theorem cd_sum {x y : Int} (hx : x ∈ ldP os D vs xs) (hy : y ∈ ldP os D vs xs) : ldr os xs (Ar os x y) ∈ ldP os D vs xs ∧ Vl vs (Ar os x y) = Vl vs (ldr os xs (Ar os x y)) ∧ (0 ≤ Ar os x y ∧ Ar os x y < prodL os) := by
 obtain ⟨hC, _, hH⟩ := cd_cs hI
 have hxO := (ldP_rng hI hx).1
 have hyO := (ldP_rng hI hy).1
 have hs := hC.addO rfl hxO hyO
 have hr := (hC.memO rfl).1 hs
 have hl := hC.ldrO rfl hs
 refine ⟨ldP_mem.2 ⟨hl, hC.ldr_ldr hr.1 hr.2.1⟩, ?_, hr.1, hr.2.1⟩
 obtain ⟨h, hh, e⟩ := hC.ldr_mem hr.1 hr.2.1
 rw [e]
 have hN := hC.m.ok.len
 have h1 := Vl_add hC.m (Ar os x y) h
 rw [hr.2.2 h hh, hC.iso h hh, Int.add_zero, Int.add_zero] at h1
 have h2 := Vl_rng hC.m hr.1 (show Ar os x y < vs.length by omega)
 have h3r := Ar_rng hC.g (Ar os x y) h
 have h3 := Vl_rng hC.m h3r.1 (show Ar os (Ar os x y) h < vs.length by omega)
 rw [Int.emod_eq_of_lt h3.1 h3.2, Int.emod_eq_of_lt h2.1 h2.2] at h1
 exact h1.symm
/-- A row of the table has no leader twice. -/
theorem cd_inj {x y z : Int} (hx : x ∈ ldP os D vs xs) (hy : y ∈ ldP os D vs xs) (hz : z ∈ ldP os D vs xs) (he : ldr os xs (Ar os x y) = ldr os xs (Ar os x z)) : y = z := by
 obtain ⟨hC, _, hH⟩ := cd_cs hI
 have rx := ldP_rng hI hx
 have ry := ldP_rng hI hy
 have rz := ldP_rng hI hz
 have r1 := (cd_sum hI hx hy).2.2
 have r2 := (cd_sum hI hx hz).2.2
 obtain ⟨h, hh, e⟩ := hC.same r1.1 r1.2 r2.1 r2.2 he.symm
 rw [Ar_assoc hC.g] at e
 have hyh := Ar_rng hC.g y h
 have e2 : z = Ar os y h := by
  have a1 : Ar os (Ng os x) (Ar os x z) = z := by rw [← Ar_assoc hC.g, Ar_comm os (Ng os x) x, Ar_neg hC.g, Ar_comm, hC.at0 rz.2.1 rz.2.2.1]
  have a2 : Ar os (Ng os x) (Ar os x (Ar os y h)) = Ar os y h := by rw [← Ar_assoc hC.g, Ar_comm os (Ng os x) x, Ar_neg hC.g, Ar_comm, hC.at0 hyh.1 hyh.2]
  rw [← a1, e, a2]
 have e3 := hC.coset ry.2.1 ry.2.2.1 hh
 rw [← e2, rz.2.2.2, ry.2.2.2] at e3
 exact e3.symm
theorem ort_eq_iff : ortL os D vs xs vs.length = xs ↔ (ldP os D vs xs).length = 1 := by
 obtain ⟨hC, hs, hH⟩ := cd_cs hI
 have hsz := cd_sizes hI
 have hpos : 1 ≤ xs.length := by have := List.length_pos_of_mem hC.zero; omega
 constructor
 ·intro e
  rw [e] at hsz
  have : (ldP os D vs xs).length * xs.length = 1 * xs.length := by omega
  exact Nat.eq_of_mul_eq_mul_right hpos this
 ·intro e
  rw [e, Nat.one_mul] at hsz
  have hsub : ∀ v ∈ xs, v ∈ ortL os D vs xs vs.length := fun v hv => hC.subO rfl hv
  refine lt_ext (ortL_lt _ _ _ _ _) hs fun v => ⟨fun hv => ?_, fun hv => hsub v hv⟩
  refine Classical.byContradiction fun hn => ?_
  have nd : (v :: xs).Nodup := List.nodup_cons.2 ⟨hn, hC.nodup⟩
  have := nd.length_le_of_subset (l₂ := ortL os D vs xs vs.length) fun y hy => by
   rcases List.mem_cons.1 hy with rfl | hy
   ·exact hv
   ·exact hsub y hy
  simp at this
  omega
/-- The mask is Lagrangian just where one class is left. -/
theorem cd_lag : ((msk xs : Nat) : Int) ∈ lagK os D vs ↔ (ldP os D vs xs).length = 1 := by
 obtain ⟨hC, hs, hH⟩ := cd_cs hI
 have hm : mems vs.length ((msk xs : Nat) : Int).toNat = xs := by rw [Int.toNat_natCast]; exact mems_msk hs hH.rng
 rw [← ort_eq_iff hI]
 unfold lagK isoK
 rw [List.mem_filter, List.mem_filter, hm, beq_iff_eq]
 constructor
 ·exact fun h => h.2
 ·intro h
  exact ⟨⟨msk_all hC.m hH, (codeI_p hI).2⟩, h⟩
end
theorem gi_lt {L : List Int} {k : Nat} (h : k < L.length) : gi L k = L[k] := by
 unfold gi; rw [List.getD_eq_getElem?_getD, List.getElem?_eq_getElem h]; rfl
theorem gi_nd {L : List Int} (h : L.Nodup) {i k : Nat} (hi : i < L.length) (hk : k < L.length) (e : gi L i = gi L k) : i = k := by
 rw [gi_lt hi, gi_lt hk] at e
 exact (List.getElem_inj h).1 e
def cF (os xs P : List Int) (i k : Nat) : Int := idxF P (ldr os xs (Ar os (gi P i) (gi P k)))
theorem cq_len (os : List Int) (D : Int) (vs xs : List Int) (hv : vs.length ≤ 64) : (cqR os D vs xs).1.length ≤ 64 ∧ (cqR os D vs xs).2.1.length ≤ 64 ∧ (cqR os D vs xs).2.2.2.length ≤ 64 ∧ ∀ y ∈ (cqR os D vs xs).2.1, y.length ≤ 1048576 := by
 by_cases hI : codeI os D vs xs = 0
 ·have hP : (ldP os D vs xs).length ≤ 64 := by
   unfold ldP ldL
   rw [List.take_length]
   exact Nat.le_trans (List.length_filter_le _ _) (Nat.le_trans (ortL_len _ _ _ _ _) hv)
  rw [cd_q hI]
  refine ⟨hP, ?_, ?_, ?_⟩
  ·show (ctab os xs (ldP os D vs xs)).length ≤ 64
   unfold ctab; rw [List.length_map]; exact hP
  ·show ((ldP os D vs xs).map (Vl vs)).length ≤ 64
   rw [List.length_map]; exact hP
  ·intro y hy
   have hy' : y ∈ ctab os xs (ldP os D vs xs) := hy
   unfold ctab at hy'
   obtain ⟨x, _, rfl⟩ := List.mem_map.1 hy'
   rw [List.length_map]
   omega
 ·have e : cqR os D vs xs = ([], [], 0, []) := by unfold cqR; rw [if_neg hI]
  rw [e]
  exact ⟨by simp, by simp, by simp, by simp⟩
section
variable {os vs xs : List Int} {D : Int} (hI : codeI os D vs xs = 0)
include hI
omit hI in
theorem tab_row {P : List Int} (hP : ldP os D vs xs = P) {i : Nat} (hi : i < P.length) : ∃ row, (ctab os xs P)[i]? = some row ∧ row.length = P.length ∧ ∀ k, k < P.length → gi row k = cF os xs P i k := by
 refine ⟨P.map fun y => idxF P (ldr os xs (Ar os (gi P i) y)), ?_, by rw [List.length_map], fun k hk => ?_⟩
 ·unfold ctab
  rw [List.getElem?_map, List.getElem?_eq_getElem hi, gi_lt hi]; rfl
 ·unfold cF
  rw [gi_lt (by rw [List.length_map]; exact hk), List.getElem_map, gi_lt hk]
theorem tab_in {P : List Int} (hP : ldP os D vs xs = P) {i k : Nat} (hi : i < P.length) (hk : k < P.length) : 0 ≤ cF os xs P i k ∧ cF os xs P i k < P.length ∧ gi P (cF os xs P i k).toNat = ldr os xs (Ar os (gi P i) (gi P k)) := by
 subst hP
 exact idxF_in (cd_sum hI (gi_mem hi) (gi_mem hk)).1
omit hI in
theorem tab_comm {P : List Int} {i k : Nat} : cF os xs P i k = cF os xs P k i := by unfold cF; rw [Ar_comm]
theorem tab_inj {P : List Int} (hP : ldP os D vs xs = P) {i k l : Nat} (hi : i < P.length) (hk : k < P.length) (hl : l < P.length) (e : cF os xs P i k = cF os xs P i l) : k = l := by
 have h1 := (tab_in hI hP hi hk).2.2
 have h2 := (tab_in hI hP hi hl).2.2
 rw [e, h2] at h1
 subst hP
 have h3 := cd_inj hI (gi_mem hi) (gi_mem hl) (gi_mem hk) h1
 exact (gi_nd (ldP_nd) hl hk h3).symm
end



section
variable {os vs : List Int} {D : Int} (hM : IsM os D vs)
include hM
end
section
variable {os vs : List Int} {D : Int} (hM : IsM os D vs)
include hM
end
/-! ### two greatest isotropic subgroups -/
section
variable {os vs : List Int} {D : Int} (hM : IsM os D vs)
include hM
end
end Go.Proofs.YtbpihnpakolooaaGreatDoor
