
/- The masks of isotropic and of Lagrangian subgroups, as the program makes them. The functions on masks that a user calls, of both sides. The walks of the laws on masks of subgroups. -/
import Derived.Test.YtbpihnpakolooaaGreatDoorMW5
import Derived.Test.YtbpihnpakolooaaGreatDoorLa
import Derived.Test.YtbpihnpakolooaaGreatDoorKM
namespace Go.Proofs.YtbpihnpakolooaaGreatDoor
open Go Go.RowKit Grp
set_option linter.unusedSimpArgs false
set_option linter.unusedVariables false
set_option maxRecDepth 100000
theorem pow_cast {m n : Nat} (h : (m : Int) < 2 ^ n) : m < 2 ^ n := by
 rw [show (2 : Int) ^ n = ((2 ^ n : Nat) : Int) from (Int.natCast_pow 2 n).symm] at h
 omega
set_option maxHeartbeats 2000000 in
theorem isoM_call (w : World) (M : Nat) (A : Option Addr) (n c : Nat) (D : Int) (A' : Option Addr) (c' : Nat) (vs : List Int) (m : Nat) (hM : Blk w M 26 #[.slice A n c, .int .i64 D, .slice A' vs.length c'])
  (h' : Sl w w.heap.size A' vs.length c' vs) (N16 : vs.length ≤ 16) (hm : m < 2 ^ vs.length) (hT : Tb w) :
  Calls Tryz.prog 113 #[.int .i64 (m : Int), .pointer (some ⟨M, 0, none⟩)] w (Re w (.bool (!isoB vs (mems vs.length m)))) := by
 have HRm := hide (show ∀ x ∈ mems vs.length m, 0 ≤ x ∧ x < (vs.length : Int) from mems_rng)
 have HRi := hide (show ∀ x ∈ mems vs.length m, i64ok x from fun x hx => by have := mems_rng x hx; exact ⟨by omega, by omega⟩)
 have hll := mems_len vs.length m
 have y0 := hM.cell 0
 have y1 := hM.cell 1
 have y2 := hM.cell 2
 have hMl := hM.lt
 obtain ⟨p, hp⟩ : ∃ p, isoB vs (mems vs.length m) = p := ⟨_, rfl⟩
 have hiso := fun W A n c D A' n' c' L l lc h1 h2 h3 h4 => isIsotropic_any W A n c [] D A' n' c' vs L l lc (mems vs.length m) h1 h2 h3 h4 HRm.out
 rw [hp] at hiso ⊢
 clear hp hM
 go_enter Tryz.func113, Tryz.ntmps113
 go_wp2_with fail
 refine wp_region_be [0, 1, 2, 3, 4, 5] 5 w.heap.size w (by kernel_rfl) (by kernel_rfl) (by kernel_rfl) (fun _ _ _ _ _ h => h) (Below.refl _ _) (fun wd hBe => ?_)
 repeat (first | (apply ord_tk rfl (by rfl) (by rfl) (by rfl); (focus (intro wx hSw; have r0 := (hSw.cell (p := ⟨M, 0, none⟩) hMl).trans y0; have r1 := (hSw.cell (p := ⟨M, 1, none⟩) hMl).trans y1; have r2 := (hSw.cell (p := ⟨M, 2, none⟩) hMl).trans y2; go_simp; (try with_reducible rfl))); (try simp only [Act.put, List.setIfInBounds_toArray, List.set_cons_zero, List.set_cons_succ])) | (apply ord_skip rfl (by rfl) (by rfl) (fun _ => hBe); (try simp only [Act.put, List.setIfInBounds_toArray, List.set_cons_zero, List.set_cons_succ])))
 refine ord_do rfl (by rfl) (by rfl) (fun K hK => ?_)
 go_simp
 refine (elementsOf_any _ vs.length m N16 hm (hT.bel hBe)).mono ?_
 rintro e w5 ⟨v5, rfl, hV5, hb5⟩
 replace hBe := hBe.trans (hb5.mono hBe.size)
 refine hK.out _ _ (fun _ => hBe) ?_
 (try simp only [Act.put, List.setIfInBounds_toArray, List.set_cons_zero, List.set_cons_succ])
 clear hK K
 obtain ⟨mA, mc, rfl, hSm⟩ := hV5.sl HRi.out
 repeat (first | (apply ord_tk rfl (by rfl) (by rfl) (by rfl); (focus (intro wx hSw; have r0 := (hSw.cell (p := ⟨M, 0, none⟩) hMl).trans y0; have r1 := (hSw.cell (p := ⟨M, 1, none⟩) hMl).trans y1; have r2 := (hSw.cell (p := ⟨M, 2, none⟩) hMl).trans y2; go_simp; (try with_reducible rfl))); (try simp only [Act.put, List.setIfInBounds_toArray, List.set_cons_zero, List.set_cons_succ])) | (apply ord_skip rfl (by rfl) (by rfl) (fun _ => hBe); (try simp only [Act.put, List.setIfInBounds_toArray, List.set_cons_zero, List.set_cons_succ])))
 refine ord_do rfl (by rfl) (by rfl) (fun K hK => ?_)
 go_simp
 refine (hiso _ _ _ _ _ _ _ _ _ _ _ ((h'.below hBe).more hBe.size) hSm (by omega) (by omega)).mono ?_
 rintro e w6 ⟨rfl, hb6⟩
 replace hBe := hBe.trans (hb6.mono hBe.size)
 refine hK.out _ _ (fun _ => hBe) ?_
 (try simp only [Act.put, List.setIfInBounds_toArray, List.set_cons_zero, List.set_cons_succ])
 clear hK K
 repeat (first | (apply ord_tk rfl (by rfl) (by rfl) (by rfl); (focus (intro wx hSw; have r0 := (hSw.cell (p := ⟨M, 0, none⟩) hMl).trans y0; have r1 := (hSw.cell (p := ⟨M, 1, none⟩) hMl).trans y1; have r2 := (hSw.cell (p := ⟨M, 2, none⟩) hMl).trans y2; go_simp; (try with_reducible rfl))); (try simp only [Act.put, List.setIfInBounds_toArray, List.set_cons_zero, List.set_cons_succ])) | (apply ord_skip rfl (by rfl) (by rfl) (fun _ => hBe); (try simp only [Act.put, List.setIfInBounds_toArray, List.set_cons_zero, List.set_cons_succ])))
 refine ord_do rfl (by rfl) (by rfl) (fun K hK => ?_)
 go_simp
 refine hK.out _ _ (fun h => absurd h (by omega)) ?_
 (try simp only [Act.put, List.setIfInBounds_toArray, List.set_cons_zero, List.set_cons_succ])
 clear hK K
 refine ord_nil ?_
 go_wp2_with fail
 go_ret
 exact ⟨rfl, hBe⟩
set_option maxHeartbeats 2000000 in
theorem isotropicMasks_any (w : World) (A : Option Addr) (n c : Nat) (os : List Int) (D : Int) (A' : Option Addr) (n' c' : Nat) (vs : List Int)
  (h : Sl w w.heap.size A n c os) (h' : Sl w w.heap.size A' n' c' vs) (hok : OkM os D vs) (hT : Tb w) :
  Calls Tryz.prog 64 #[.agg #[.slice A n c, .int .i64 D, .slice A' n' c']] w (Mk w (isoK os vs)) := by
 obtain rfl := h'.len
 have N16 := hok.lt
 have HN := hide hok.len.symm
 have HR := hide (show ∀ x ∈ sgK os vs.length, 0 ≤ x ∧ x < 2 ^ vs.length ∧ x < 65536 from sgK_rng N16)
 have HL := hide (sgK_len (os := os) N16)
 have hsub := fun W A n c A' c' (h1 : Sl W W.heap.size A n c os) (h2 : Tb W) => subgroupMasks_any W A n c os D A' c' vs.length h1 hok.g HN.out h2
 have HE := hide (show isoK os vs = (sgK os vs.length).filter (fun m => !(fun m : Int => !isoB vs (mems vs.length m.toNat)) m) by
  unfold isoK
  apply List.filter_congr
  intro x _
  simp)
 go_enter Tryz.func64, Tryz.ntmps64
 go_wp2_with fail
 obtain ⟨W, hW⟩ : ∃ W, w.alloc (.cells #[.slice A n c, .int .i64 D, .slice A' vs.length c'] 26) = W := ⟨_, rfl⟩
 have hbW : Below w.heap.size w W := by rw [← hW]; exact (by repeat (first | assumption | exact Below.refl _ _ | apply below_drewN | apply Below.drew | apply Below.alloc | apply Below.setCell | omega | (focus (simp; done)) | (focus (simp; omega))))
 have hszW : w.heap.size < W.heap.size := by rw [← hW]; simp
 have hsW := hide (show W.heap.size = w.heap.size + 1 by rw [← hW]; simp)
 have bM : Blk W w.heap.size 26 #[.slice A n c, .int .i64 D, .slice A' vs.length c'] := by rw [← hW]; exact Blk.new _ _ _
 have q0 : W.cell? ⟨w.heap.size, 0, none⟩ = some (.slice A n c) := by rw [← hW]; exact (Blk.new _ _ _).cell 0
 have q1 : W.cell? ⟨w.heap.size, 1, none⟩ = some (.int .i64 D) := by rw [← hW]; exact (Blk.new _ _ _).cell 1
 have q2 : W.cell? ⟨w.heap.size, 2, none⟩ = some (.slice A' vs.length c') := by rw [← hW]; exact (Blk.new _ _ _).cell 2
 rw [hW]
 clear hW
 have hs := (h.below hbW).more (Nat.le_of_lt hszW)
 have hs' := (h'.below hbW).more (Nat.le_of_lt hszW)
 have hTW := hT.bel hbW
 refine (hsub _ _ _ _ _ _ hs hTW).mono ?_
 rintro e w3 ⟨v, rfl, hV, hb3⟩
 have hbM := bM.all hb3
 have HR6 := hide (show ∀ x ∈ sgK os vs.length, i64ok x from fun x hx => by have := HR.out x hx; exact ⟨by omega, by omega⟩)
 obtain ⟨sA, sc, rfl, hSa⟩ := hV.sl HR6.out
 go_wp2_with fail
 refine (isoM_delete w3 _ (sgK os vs.length) (fun m : Int => !isoB vs (mems vs.length m.toNat)) w.heap.size W.heap.size hV HR6.out hb3.size (by have := HL.out; omega) ?_).mono ?_
 ·intro k hk wd hwd
  have hr := HR.out _ (gi_mem hk)
  obtain ⟨m, hm⟩ := Int.eq_ofNat_of_zero_le hr.1
  have hm2 : m < 2 ^ vs.length := pow_cast (by rw [← hm]; exact hr.2.1)
  rw [hm]
  have hWd : Below W.heap.size W wd := hb3.trans hwd
  exact isoM_call wd w.heap.size A n c D A' c' vs m (bM.all hWd) ((hs'.below hWd).more hWd.size) N16 hm2 (hTW.bel hWd)
 ·rintro e w4 ⟨v', rfl, hO, hb4⟩
  rw [← HE.out] at hO
  go_wp2_with fail
  go_ret
  exact ⟨_, rfl, hO.less (Nat.le_of_lt hszW), hbW.trans ((hb3.trans hb4).mono (Nat.le_of_lt hszW))⟩
theorem msk_ort {os vs : List Int} {D : Int} {m : Nat} (hm : m < 2 ^ vs.length) : (((msk (ortL os D vs (mems vs.length m) vs.length) : Nat) : Int) != (m : Int)) = !(ortL os D vs (mems vs.length m) vs.length == mems vs.length m) := by
 have hr : ∀ x ∈ ortL os D vs (mems vs.length m) vs.length, 0 ≤ x ∧ x < vs.length := fun x hx => ortL_mem x hx
 have hlt : (ortL os D vs (mems vs.length m) vs.length).Pairwise (· < ·) := by
  unfold ortL
  refine List.Pairwise.map _ (R := (· < ·)) (fun a b h => by simpa using h) ?_
  exact List.Pairwise.filter _ List.pairwise_lt_range
 have key : msk (ortL os D vs (mems vs.length m) vs.length) = m ↔ ortL os D vs (mems vs.length m) vs.length = mems vs.length m := by
  constructor
  ·intro h
   rw [← mems_msk hlt hr, h]
  ·intro h
   rw [h, msk_mems hm]
 by_cases h : ortL os D vs (mems vs.length m) vs.length = mems vs.length m
 ·have h2 := key.2 h
  rw [h2, h]
  simp
 ·have h2 : msk (ortL os D vs (mems vs.length m) vs.length) ≠ m := fun e => h (key.1 e)
  have e1 : (((msk (ortL os D vs (mems vs.length m) vs.length) : Nat) : Int) != (m : Int)) = true := by simpa using fun e => h2 (by omega)
  have e2 : (ortL os D vs (mems vs.length m) vs.length == mems vs.length m) = false := by rw [beq_eq_false_iff_ne]; exact h
  rw [e1, e2]; rfl
set_option maxHeartbeats 2000000 in
theorem lagM_call (w : World) (M : Nat) (A : Option Addr) (n c : Nat) (os : List Int) (D : Int) (A' : Option Addr) (c' : Nat) (vs : List Int) (m : Nat) (hM : Blk w M 26 #[.slice A n c, .int .i64 D, .slice A' vs.length c'])
  (h : Sl w w.heap.size A n c os) (h' : Sl w w.heap.size A' vs.length c' vs) (hok : OkM os D vs) (hm : m < 2 ^ vs.length) (hT : Tb w) :
  Calls Tryz.prog 111 #[.int .i64 (m : Int), .pointer (some ⟨M, 0, none⟩)] w (Re w (.bool (!(ortL os D vs (mems vs.length m) vs.length == mems vs.length m)))) := by
 have N16 := hok.lt
 have HRp := hide (show ∀ x ∈ mems vs.length m, 0 ≤ x ∧ x < prodL os by rw [← hok.len]; exact mems_rng)
 have HRi := hide (show ∀ x ∈ mems vs.length m, i64ok x from fun x hx => by have := mems_rng x hx; exact ⟨by omega, by omega⟩)
 have HOR := hide (show ∀ x ∈ ortL os D vs (mems vs.length m) vs.length, i64ok x from fun x hx => by have := ortL_mem x hx; exact ⟨by omega, by omega⟩)
 have hol := ortL_len os vs (mems vs.length m) D vs.length
 have hmk := fun W' B A n c h1 h2 => maskOf_any W' B A n c (ortL os D vs (mems vs.length m) vs.length) h1 (fun x hx => by have := ortL_mem x hx; omega) h2
 have hll := mems_len vs.length m
 have y0 := hM.cell 0
 have y1 := hM.cell 1
 have y2 := hM.cell 2
 have hMl := hM.lt
 have hpe := msk_ort (os := os) (D := D) hm
 obtain ⟨p, hp⟩ : ∃ p, (ortL os D vs (mems vs.length m) vs.length == mems vs.length m) = p := ⟨_, rfl⟩
 rw [hp] at hpe ⊢
 have HPP := hide hp
 clear hp hM
 go_enter Tryz.func111, Tryz.ntmps111
 go_wp2_with fail
 refine wp_region_be [0, 1, 5, 2, 3, 4, 6, 7] 7 w.heap.size w (by kernel_rfl) (by kernel_rfl) (by kernel_rfl) (fun _ _ _ _ _ h => h) (Below.refl _ _) (fun wd hBe => ?_)
 repeat (first | (apply ord_tk rfl (by rfl) (by rfl) (by rfl); (focus (intro wx hSw; have r0 := (hSw.cell (p := ⟨M, 0, none⟩) hMl).trans y0; have r1 := (hSw.cell (p := ⟨M, 1, none⟩) hMl).trans y1; have r2 := (hSw.cell (p := ⟨M, 2, none⟩) hMl).trans y2; go_simp; (try with_reducible rfl))); (try simp only [Act.put, List.setIfInBounds_toArray, List.set_cons_zero, List.set_cons_succ])) | (apply ord_skip rfl (by rfl) (by rfl) (fun _ => hBe); (try simp only [Act.put, List.setIfInBounds_toArray, List.set_cons_zero, List.set_cons_succ])))
 refine ord_do rfl (by rfl) (by rfl) (fun K hK => ?_)
 go_simp
 refine (elementsOf_any _ vs.length m N16 hm (hT.bel hBe)).mono ?_
 rintro e w5 ⟨v5, rfl, hV5, hb5⟩
 replace hBe := hBe.trans (hb5.mono hBe.size)
 refine hK.out _ _ (fun _ => hBe) ?_
 (try simp only [Act.put, List.setIfInBounds_toArray, List.set_cons_zero, List.set_cons_succ])
 clear hK K
 obtain ⟨mA, mc, rfl, hSm⟩ := hV5.sl HRi.out
 repeat (first | (apply ord_tk rfl (by rfl) (by rfl) (by rfl); (focus (intro wx hSw; have r0 := (hSw.cell (p := ⟨M, 0, none⟩) hMl).trans y0; have r1 := (hSw.cell (p := ⟨M, 1, none⟩) hMl).trans y1; have r2 := (hSw.cell (p := ⟨M, 2, none⟩) hMl).trans y2; go_simp; (try with_reducible rfl))); (try simp only [Act.put, List.setIfInBounds_toArray, List.set_cons_zero, List.set_cons_succ])) | (apply ord_skip rfl (by rfl) (by rfl) (fun _ => hBe); (try simp only [Act.put, List.setIfInBounds_toArray, List.set_cons_zero, List.set_cons_succ])))
 refine ord_do rfl (by rfl) (by rfl) (fun K hK => ?_)
 go_simp
 refine (orthogonal_any _ _ _ _ os D _ _ _ vs _ _ _ (mems vs.length m) ((h.below hBe).more hBe.size) ((h'.below hBe).more hBe.size) hSm (by omega) hok HRp.out).mono ?_
 rintro e w6 ⟨v6, rfl, hV6, hb6⟩
 replace hBe := hBe.trans (hb6.mono hBe.size)
 refine hK.out _ _ (fun _ => hBe) ?_
 (try simp only [Act.put, List.setIfInBounds_toArray, List.set_cons_zero, List.set_cons_succ])
 clear hK K
 obtain ⟨nA, nc, rfl, hSn⟩ := hV6.sl HOR.out
 repeat (first | (apply ord_tk rfl (by rfl) (by rfl) (by rfl); (focus (intro wx hSw; have r0 := (hSw.cell (p := ⟨M, 0, none⟩) hMl).trans y0; have r1 := (hSw.cell (p := ⟨M, 1, none⟩) hMl).trans y1; have r2 := (hSw.cell (p := ⟨M, 2, none⟩) hMl).trans y2; go_simp; (try with_reducible rfl))); (try simp only [Act.put, List.setIfInBounds_toArray, List.set_cons_zero, List.set_cons_succ])) | (apply ord_skip rfl (by rfl) (by rfl) (fun _ => hBe); (try simp only [Act.put, List.setIfInBounds_toArray, List.set_cons_zero, List.set_cons_succ])))
 refine ord_do rfl (by rfl) (by rfl) (fun K hK => ?_)
 go_simp
 refine (hmk _ _ _ _ _ hSn (by omega)).mono ?_
 rintro e w7 ⟨rfl, m7, hw7⟩
 have hBe7 : Below w.heap.size w w7 := by rw [hw7]; exact below_drewN hBe m7
 clear hw7
 refine hK.out _ _ (fun _ => hBe7) ?_
 (try simp only [Act.put, List.setIfInBounds_toArray, List.set_cons_zero, List.set_cons_succ])
 clear hK K
 repeat (first | (apply ord_tk rfl (by rfl) (by rfl) (by rfl); (focus (intro wx hSw; have r0 := (hSw.cell (p := ⟨M, 0, none⟩) hMl).trans y0; have r1 := (hSw.cell (p := ⟨M, 1, none⟩) hMl).trans y1; have r2 := (hSw.cell (p := ⟨M, 2, none⟩) hMl).trans y2; go_simp; (try with_reducible rfl))); (try simp only [Act.put, List.setIfInBounds_toArray, List.set_cons_zero, List.set_cons_succ])) | (apply ord_skip rfl (by rfl) (by rfl) (fun _ => hBe); (try simp only [Act.put, List.setIfInBounds_toArray, List.set_cons_zero, List.set_cons_succ])))
 refine ord_do rfl (by rfl) (by rfl) (fun K hK => ?_)
 go_simp
 refine hK.out _ _ (fun h => absurd h (by omega)) ?_
 (try simp only [Act.put, List.setIfInBounds_toArray, List.set_cons_zero, List.set_cons_succ])
 clear hK K
 refine ord_nil ?_
 go_wp2_with fail
 go_ret
 exact ⟨rfl, hBe7⟩
set_option maxHeartbeats 2000000 in
theorem lagrangianMasks_any (w : World) (A : Option Addr) (n c : Nat) (os : List Int) (D : Int) (A' : Option Addr) (n' c' : Nat) (vs : List Int)
  (h : Sl w w.heap.size A n c os) (h' : Sl w w.heap.size A' n' c' vs) (hok : OkM os D vs) (hT : Tb w) :
  Calls Tryz.prog 61 #[.agg #[.slice A n c, .int .i64 D, .slice A' n' c']] w (Mk w (lagK os D vs)) := by
 obtain rfl := h'.len
 have N16 := hok.lt
 have HR := hide (show ∀ x ∈ isoK os vs, 0 ≤ x ∧ x < 2 ^ vs.length ∧ x < 65536 from fun x hx => sgK_rng N16 x (isoK_sub x hx))
 have HL := hide (show (isoK os vs).length ≤ 65536 from Nat.le_trans (isoK_len os vs) (sgK_len (os := os) N16))
 have hsub := fun W A n c A' c' (h1 : Sl W W.heap.size A n c os) (h2 : Sl W W.heap.size A' vs.length c' vs) (h3 : Tb W) => isotropicMasks_any W A n c os D A' vs.length c' vs h1 h2 hok h3
 have HE := hide (show lagK os D vs = (isoK os vs).filter (fun m => !(fun m : Int => !(ortL os D vs (mems vs.length m.toNat) vs.length == mems vs.length m.toNat)) m) by
  unfold lagK
  apply List.filter_congr
  intro x _
  simp)
 go_enter Tryz.func61, Tryz.ntmps61
 go_wp2_with fail
 obtain ⟨W, hW⟩ : ∃ W, w.alloc (.cells #[.slice A n c, .int .i64 D, .slice A' vs.length c'] 26) = W := ⟨_, rfl⟩
 have hbW : Below w.heap.size w W := by rw [← hW]; exact (by repeat (first | assumption | exact Below.refl _ _ | apply below_drewN | apply Below.drew | apply Below.alloc | apply Below.setCell | omega | (focus (simp; done)) | (focus (simp; omega))))
 have hszW : w.heap.size < W.heap.size := by rw [← hW]; simp
 have hsW := hide (show W.heap.size = w.heap.size + 1 by rw [← hW]; simp)
 have bM : Blk W w.heap.size 26 #[.slice A n c, .int .i64 D, .slice A' vs.length c'] := by rw [← hW]; exact Blk.new _ _ _
 have q0 : W.cell? ⟨w.heap.size, 0, none⟩ = some (.slice A n c) := by rw [← hW]; exact (Blk.new _ _ _).cell 0
 have q1 : W.cell? ⟨w.heap.size, 1, none⟩ = some (.int .i64 D) := by rw [← hW]; exact (Blk.new _ _ _).cell 1
 have q2 : W.cell? ⟨w.heap.size, 2, none⟩ = some (.slice A' vs.length c') := by rw [← hW]; exact (Blk.new _ _ _).cell 2
 rw [hW]
 clear hW
 have hs := (h.below hbW).more (Nat.le_of_lt hszW)
 have hs' := (h'.below hbW).more (Nat.le_of_lt hszW)
 have hTW := hT.bel hbW
 refine (hsub _ _ _ _ _ _ hs hs' hTW).mono ?_
 rintro e w3 ⟨v, rfl, hV, hb3⟩
 have hbM := bM.all hb3
 have HR6 := hide (show ∀ x ∈ isoK os vs, i64ok x from fun x hx => by have := HR.out x hx; exact ⟨by omega, by omega⟩)
 obtain ⟨sA, sc, rfl, hSa⟩ := hV.sl HR6.out
 go_wp2_with fail
 refine (lagM_delete w3 _ (isoK os vs) (fun m : Int => !(ortL os D vs (mems vs.length m.toNat) vs.length == mems vs.length m.toNat)) w.heap.size W.heap.size hV HR6.out hb3.size (by have := HL.out; omega) ?_).mono ?_
 ·intro k hk wd hwd
  have hr := HR.out _ (gi_mem hk)
  obtain ⟨m, hm⟩ := Int.eq_ofNat_of_zero_le hr.1
  have hm2 : m < 2 ^ vs.length := pow_cast (by rw [← hm]; exact hr.2.1)
  rw [hm]
  have hWd : Below W.heap.size W wd := hb3.trans hwd
  exact lagM_call wd w.heap.size A n c os D A' c' vs m (bM.all hWd) ((hs.below hWd).more hWd.size) ((hs'.below hWd).more hWd.size) hok hm2 (hTW.bel hWd)
 ·rintro e w4 ⟨v', rfl, hO, hb4⟩
  rw [← HE.out] at hO
  go_wp2_with fail
  go_ret
  exact ⟨_, rfl, hO.less (Nat.le_of_lt hszW), hbW.trans ((hb3.trans hb4).mono (Nat.le_of_lt hszW))⟩
def bestL (N : Nat) (ms : List Int) : List Int := ms.foldl (fun b m => if b.length < (mems N m.toNat).length then mems N m.toNat else b) []
theorem bestL_snoc {N k : Nat} {ms : List Int} (hk : k < ms.length) : bestL N (ms.take (k + 1)) = if (bestL N (ms.take k)).length < (mems N (gi ms k).toNat).length then mems N (gi ms k).toNat else bestL N (ms.take k) := by
 unfold bestL; rw [take_gi hk, List.foldl_append]; rfl
theorem bestL_mem {N : Nat} (ms : List Int) : ∀ x ∈ bestL N ms, 0 ≤ x ∧ x < N := by
 have key : ∀ (ms b : List Int), (∀ x ∈ b, 0 ≤ x ∧ x < (N : Int)) → ∀ x ∈ ms.foldl (fun b m => if b.length < (mems N m.toNat).length then mems N m.toNat else b) b, 0 ≤ x ∧ x < N := by
  intro ms
  induction ms with
  | nil => intro b hb; exact hb
  | cons m r ih =>
   intro b hb
   rw [List.foldl_cons]
   refine ih _ ?_
   split
   ·exact mems_rng
   ·exact hb
 exact key ms [] (by simp)
theorem bestL_len (N : Nat) (ms : List Int) : (bestL N ms).length ≤ N := by
 have key : ∀ (ms b : List Int), b.length ≤ N → (ms.foldl (fun b m => if b.length < (mems N m.toNat).length then mems N m.toNat else b) b).length ≤ N := by
  intro ms
  induction ms with
  | nil => intro b hb; exact hb
  | cons m r ih =>
   intro b hb
   rw [List.foldl_cons]
   refine ih _ ?_
   split
   ·exact mems_len _ _
   ·exact hb
 exact key ms [] (by simp)
noncomputable def ifM (os : List Int) (D : Int) (vs xs : List Int) : List Int := if isM os D vs = true then xs else []
set_option maxHeartbeats 1000000 in
theorem spec_IM_any (w : World) (A : Option Addr) (n c : Nat) (os : List Int) (D : Int) (A' : Option Addr) (n' c' : Nat) (vs : List Int) (h : Sl w w.heap.size A n c os) (h' : Sl w w.heap.size A' n' c' vs) (hn : n ≤ 1048576) (hn' : n' ≤ 1048576) :
  Calls Tryz.prog 28 #[.agg #[.slice A n c, .int .i64 D, .slice A' n' c']] w (MkC w (ifM os D vs (isoK os vs)) (codeM os D vs)) := by
 obtain rfl := h'.len
 cases hm : isM os D vs with
 | false =>
  have hC := hide (show codeM os D vs = 1 by unfold codeM; rw [hm]; rfl)
  have hR := hide (show ifM os D vs (isoK os vs) = [] by unfold ifM; rw [hm]; rfl)
  go_enter Tryz.func28, Tryz.ntmps28
  go_wp2_with fail
  obtain ⟨W, hW⟩ : ∃ W, w.alloc (.cells #[.slice A n c, .int .i64 D, .slice A' vs.length c'] 26) = W := ⟨_, rfl⟩
  have hbW : Below w.heap.size w W := by rw [← hW]; exact (by repeat (first | assumption | exact Below.refl _ _ | apply below_drewN | apply Below.drew | apply Below.alloc | apply Below.setCell | omega | (focus (simp; done)) | (focus (simp; omega))))
  have hszW : w.heap.size < W.heap.size := by rw [← hW]; simp
  have hsW := hide (show W.heap.size = w.heap.size + 1 by rw [← hW]; simp)
  have bM : Blk W w.heap.size 26 #[.slice A n c, .int .i64 D, .slice A' vs.length c'] := by rw [← hW]; exact Blk.new _ _ _
  have q0 : W.cell? ⟨w.heap.size, 0, none⟩ = some (.slice A n c) := by rw [← hW]; exact (Blk.new _ _ _).cell 0
  have q1 : W.cell? ⟨w.heap.size, 1, none⟩ = some (.int .i64 D) := by rw [← hW]; exact (Blk.new _ _ _).cell 1
  have q2 : W.cell? ⟨w.heap.size, 2, none⟩ = some (.slice A' vs.length c') := by rw [← hW]; exact (Blk.new _ _ _).cell 2
  rw [hW]
  clear hW
  have hs := (h.below hbW).more (Nat.le_of_lt hszW)
  have hs' := (h'.below hbW).more (Nat.le_of_lt hszW)
  go_wp2_with fail
  refine (l10Is_v false _ _ _ _ _ _ _ _ _ _ hs hs' hn hn' hm).mono ?_
  rintro e w2 ⟨rfl, hb2⟩
  go_wp2_with fail
  refine bodyPost_ret (v := .tuple #[.slice none 0 0, .int .i64 1]) (by simp [results, Tryz.results28, go_sem]) rfl ?_
  exact ⟨_, by rw [hC.out], by rw [hR.out]; exact Ow.nil _ _, hbW.trans (hb2.mono (Nat.le_of_lt hszW))⟩
 | true =>
  have hM := isM_iff.1 hm
  have hC := hide (show codeM os D vs = 0 by unfold codeM; rw [hm]; rfl)
  have hR := hide (show ifM os D vs (isoK os vs) = isoK os vs by unfold ifM; rw [hm]; rfl)
  have hok := hM.ok
  have hN := hok.len
  go_enter Tryz.func28, Tryz.ntmps28
  go_wp2_with fail
  obtain ⟨W, hW⟩ : ∃ W, w.alloc (.cells #[.slice A n c, .int .i64 D, .slice A' vs.length c'] 26) = W := ⟨_, rfl⟩
  have hbW : Below w.heap.size w W := by rw [← hW]; exact (by repeat (first | assumption | exact Below.refl _ _ | apply below_drewN | apply Below.drew | apply Below.alloc | apply Below.setCell | omega | (focus (simp; done)) | (focus (simp; omega))))
  have hszW : w.heap.size < W.heap.size := by rw [← hW]; simp
  have hsW := hide (show W.heap.size = w.heap.size + 1 by rw [← hW]; simp)
  have bM : Blk W w.heap.size 26 #[.slice A n c, .int .i64 D, .slice A' vs.length c'] := by rw [← hW]; exact Blk.new _ _ _
  have q0 : W.cell? ⟨w.heap.size, 0, none⟩ = some (.slice A n c) := by rw [← hW]; exact (Blk.new _ _ _).cell 0
  have q1 : W.cell? ⟨w.heap.size, 1, none⟩ = some (.int .i64 D) := by rw [← hW]; exact (Blk.new _ _ _).cell 1
  have q2 : W.cell? ⟨w.heap.size, 2, none⟩ = some (.slice A' vs.length c') := by rw [← hW]; exact (Blk.new _ _ _).cell 2
  rw [hW]
  clear hW
  have hs := (h.below hbW).more (Nat.le_of_lt hszW)
  have hs' := (h'.below hbW).more (Nat.le_of_lt hszW)
  go_wp2_with fail
  refine (l10Is_v true _ _ _ _ _ _ _ _ _ _ hs hs' hn hn' hm).mono ?_
  rintro e w2 ⟨rfl, hb2⟩
  have r0 := (hb2.cell (p := ⟨w.heap.size, 0, none⟩) hszW).trans q0
  have r1 := (hb2.cell (p := ⟨w.heap.size, 1, none⟩) hszW).trans q1
  have r2 := (hb2.cell (p := ⟨w.heap.size, 2, none⟩) hszW).trans q2
  go_wp2_with fail
  clear r0 r1 r2
  have k1 := (hs.below hb2).more hb2.size
  have k2 := (hs'.below hb2).more hb2.size
  have hbb := hbW.trans (hb2.mono (Nat.le_of_lt hszW))
  refine (l11IsoMasks_any _ _ _ _ os D _ _ _ vs k1 k2 hok).mono ?_
  rintro e w3 ⟨v, rfl, hO, hb3⟩
  have hb2s := hb2.size
  go_wp2_with fail
  refine bodyPost_ret (v := .tuple #[v, .int .i64 0]) (by simp [results, Tryz.results28, go_sem]) rfl ?_
  exact ⟨_, by rw [hC.out], by rw [hR.out]; exact hO.less (by omega), hbW.trans ((hb2.trans (hb3.mono hb2s)).mono (Nat.le_of_lt hszW))⟩
set_option maxHeartbeats 1000000 in
theorem impl_IM_any (w : World) (A : Option Addr) (n c : Nat) (os : List Int) (D : Int) (A' : Option Addr) (n' c' : Nat) (vs : List Int) (h : Sl w w.heap.size A n c os) (h' : Sl w w.heap.size A' n' c' vs) (hn : n ≤ 1048576) (hn' : n' ≤ 1048576) (hT : Tb w) :
  Calls Tryz.prog 27 #[.agg #[.slice A n c, .int .i64 D, .slice A' n' c']] w (MkC w (ifM os D vs (isoK os vs)) (codeM os D vs)) := by
 obtain rfl := h'.len
 cases hm : isM os D vs with
 | false =>
  have hC := hide (show codeM os D vs = 1 by unfold codeM; rw [hm]; rfl)
  have hR := hide (show ifM os D vs (isoK os vs) = [] by unfold ifM; rw [hm]; rfl)
  go_enter Tryz.func27, Tryz.ntmps27
  go_wp2_with fail
  obtain ⟨W, hW⟩ : ∃ W, w.alloc (.cells #[.slice A n c, .int .i64 D, .slice A' vs.length c'] 26) = W := ⟨_, rfl⟩
  have hbW : Below w.heap.size w W := by rw [← hW]; exact (by repeat (first | assumption | exact Below.refl _ _ | apply below_drewN | apply Below.drew | apply Below.alloc | apply Below.setCell | omega | (focus (simp; done)) | (focus (simp; omega))))
  have hszW : w.heap.size < W.heap.size := by rw [← hW]; simp
  have hsW := hide (show W.heap.size = w.heap.size + 1 by rw [← hW]; simp)
  have bM : Blk W w.heap.size 26 #[.slice A n c, .int .i64 D, .slice A' vs.length c'] := by rw [← hW]; exact Blk.new _ _ _
  have q0 : W.cell? ⟨w.heap.size, 0, none⟩ = some (.slice A n c) := by rw [← hW]; exact (Blk.new _ _ _).cell 0
  have q1 : W.cell? ⟨w.heap.size, 1, none⟩ = some (.int .i64 D) := by rw [← hW]; exact (Blk.new _ _ _).cell 1
  have q2 : W.cell? ⟨w.heap.size, 2, none⟩ = some (.slice A' vs.length c') := by rw [← hW]; exact (Blk.new _ _ _).cell 2
  rw [hW]
  clear hW
  have hs := (h.below hbW).more (Nat.le_of_lt hszW)
  have hs' := (h'.below hbW).more (Nat.le_of_lt hszW)
  go_wp2_with fail
  refine (implIs_v false _ _ _ _ _ _ _ _ _ _ hs hs' hn hn' hm).mono ?_
  rintro e w2 ⟨rfl, hb2⟩
  go_wp2_with fail
  refine bodyPost_ret (v := .tuple #[.slice none 0 0, .int .i64 1]) (by simp [results, Tryz.results27, go_sem]) rfl ?_
  exact ⟨_, by rw [hC.out], by rw [hR.out]; exact Ow.nil _ _, hbW.trans (hb2.mono (Nat.le_of_lt hszW))⟩
 | true =>
  have hM := isM_iff.1 hm
  have hC := hide (show codeM os D vs = 0 by unfold codeM; rw [hm]; rfl)
  have hR := hide (show ifM os D vs (isoK os vs) = isoK os vs by unfold ifM; rw [hm]; rfl)
  have hok := hM.ok
  have hN := hok.len
  go_enter Tryz.func27, Tryz.ntmps27
  go_wp2_with fail
  obtain ⟨W, hW⟩ : ∃ W, w.alloc (.cells #[.slice A n c, .int .i64 D, .slice A' vs.length c'] 26) = W := ⟨_, rfl⟩
  have hbW : Below w.heap.size w W := by rw [← hW]; exact (by repeat (first | assumption | exact Below.refl _ _ | apply below_drewN | apply Below.drew | apply Below.alloc | apply Below.setCell | omega | (focus (simp; done)) | (focus (simp; omega))))
  have hszW : w.heap.size < W.heap.size := by rw [← hW]; simp
  have hsW := hide (show W.heap.size = w.heap.size + 1 by rw [← hW]; simp)
  have bM : Blk W w.heap.size 26 #[.slice A n c, .int .i64 D, .slice A' vs.length c'] := by rw [← hW]; exact Blk.new _ _ _
  have q0 : W.cell? ⟨w.heap.size, 0, none⟩ = some (.slice A n c) := by rw [← hW]; exact (Blk.new _ _ _).cell 0
  have q1 : W.cell? ⟨w.heap.size, 1, none⟩ = some (.int .i64 D) := by rw [← hW]; exact (Blk.new _ _ _).cell 1
  have q2 : W.cell? ⟨w.heap.size, 2, none⟩ = some (.slice A' vs.length c') := by rw [← hW]; exact (Blk.new _ _ _).cell 2
  rw [hW]
  clear hW
  have hs := (h.below hbW).more (Nat.le_of_lt hszW)
  have hs' := (h'.below hbW).more (Nat.le_of_lt hszW)
  go_wp2_with fail
  refine (implIs_v true _ _ _ _ _ _ _ _ _ _ hs hs' hn hn' hm).mono ?_
  rintro e w2 ⟨rfl, hb2⟩
  have r0 := (hb2.cell (p := ⟨w.heap.size, 0, none⟩) hszW).trans q0
  have r1 := (hb2.cell (p := ⟨w.heap.size, 1, none⟩) hszW).trans q1
  have r2 := (hb2.cell (p := ⟨w.heap.size, 2, none⟩) hszW).trans q2
  go_wp2_with fail
  clear r0 r1 r2
  have k1 := (hs.below hb2).more hb2.size
  have k2 := (hs'.below hb2).more hb2.size
  have hbb := hbW.trans (hb2.mono (Nat.le_of_lt hszW))
  refine (isotropicMasks_any _ _ _ _ os D _ _ _ vs k1 k2 hok (hT.bel hbb)).mono ?_
  rintro e w3 ⟨v, rfl, hO, hb3⟩
  have hb2s := hb2.size
  go_wp2_with fail
  refine bodyPost_ret (v := .tuple #[v, .int .i64 0]) (by simp [results, Tryz.results27, go_sem]) rfl ?_
  exact ⟨_, by rw [hC.out], by rw [hR.out]; exact hO.less (by omega), hbW.trans ((hb2.trans (hb3.mono hb2s)).mono (Nat.le_of_lt hszW))⟩
set_option maxHeartbeats 1000000 in
theorem spec_LgM_any (w : World) (A : Option Addr) (n c : Nat) (os : List Int) (D : Int) (A' : Option Addr) (n' c' : Nat) (vs : List Int) (h : Sl w w.heap.size A n c os) (h' : Sl w w.heap.size A' n' c' vs) (hn : n ≤ 1048576) (hn' : n' ≤ 1048576) :
  Calls Tryz.prog 29 #[.agg #[.slice A n c, .int .i64 D, .slice A' n' c']] w (MkC w (ifM os D vs (lagK os D vs)) (codeM os D vs)) := by
 obtain rfl := h'.len
 cases hm : isM os D vs with
 | false =>
  have hC := hide (show codeM os D vs = 1 by unfold codeM; rw [hm]; rfl)
  have hR := hide (show ifM os D vs (lagK os D vs) = [] by unfold ifM; rw [hm]; rfl)
  go_enter Tryz.func29, Tryz.ntmps29
  go_wp2_with fail
  obtain ⟨W, hW⟩ : ∃ W, w.alloc (.cells #[.slice A n c, .int .i64 D, .slice A' vs.length c'] 26) = W := ⟨_, rfl⟩
  have hbW : Below w.heap.size w W := by rw [← hW]; exact (by repeat (first | assumption | exact Below.refl _ _ | apply below_drewN | apply Below.drew | apply Below.alloc | apply Below.setCell | omega | (focus (simp; done)) | (focus (simp; omega))))
  have hszW : w.heap.size < W.heap.size := by rw [← hW]; simp
  have hsW := hide (show W.heap.size = w.heap.size + 1 by rw [← hW]; simp)
  have bM : Blk W w.heap.size 26 #[.slice A n c, .int .i64 D, .slice A' vs.length c'] := by rw [← hW]; exact Blk.new _ _ _
  have q0 : W.cell? ⟨w.heap.size, 0, none⟩ = some (.slice A n c) := by rw [← hW]; exact (Blk.new _ _ _).cell 0
  have q1 : W.cell? ⟨w.heap.size, 1, none⟩ = some (.int .i64 D) := by rw [← hW]; exact (Blk.new _ _ _).cell 1
  have q2 : W.cell? ⟨w.heap.size, 2, none⟩ = some (.slice A' vs.length c') := by rw [← hW]; exact (Blk.new _ _ _).cell 2
  rw [hW]
  clear hW
  have hs := (h.below hbW).more (Nat.le_of_lt hszW)
  have hs' := (h'.below hbW).more (Nat.le_of_lt hszW)
  go_wp2_with fail
  refine (l10Is_v false _ _ _ _ _ _ _ _ _ _ hs hs' hn hn' hm).mono ?_
  rintro e w2 ⟨rfl, hb2⟩
  go_wp2_with fail
  refine bodyPost_ret (v := .tuple #[.slice none 0 0, .int .i64 1]) (by simp [results, Tryz.results29, go_sem]) rfl ?_
  exact ⟨_, by rw [hC.out], by rw [hR.out]; exact Ow.nil _ _, hbW.trans (hb2.mono (Nat.le_of_lt hszW))⟩
 | true =>
  have hM := isM_iff.1 hm
  have hC := hide (show codeM os D vs = 0 by unfold codeM; rw [hm]; rfl)
  have hR := hide (show ifM os D vs (lagK os D vs) = lagK os D vs by unfold ifM; rw [hm]; rfl)
  have hok := hM.ok
  have hN := hok.len
  go_enter Tryz.func29, Tryz.ntmps29
  go_wp2_with fail
  obtain ⟨W, hW⟩ : ∃ W, w.alloc (.cells #[.slice A n c, .int .i64 D, .slice A' vs.length c'] 26) = W := ⟨_, rfl⟩
  have hbW : Below w.heap.size w W := by rw [← hW]; exact (by repeat (first | assumption | exact Below.refl _ _ | apply below_drewN | apply Below.drew | apply Below.alloc | apply Below.setCell | omega | (focus (simp; done)) | (focus (simp; omega))))
  have hszW : w.heap.size < W.heap.size := by rw [← hW]; simp
  have hsW := hide (show W.heap.size = w.heap.size + 1 by rw [← hW]; simp)
  have bM : Blk W w.heap.size 26 #[.slice A n c, .int .i64 D, .slice A' vs.length c'] := by rw [← hW]; exact Blk.new _ _ _
  have q0 : W.cell? ⟨w.heap.size, 0, none⟩ = some (.slice A n c) := by rw [← hW]; exact (Blk.new _ _ _).cell 0
  have q1 : W.cell? ⟨w.heap.size, 1, none⟩ = some (.int .i64 D) := by rw [← hW]; exact (Blk.new _ _ _).cell 1
  have q2 : W.cell? ⟨w.heap.size, 2, none⟩ = some (.slice A' vs.length c') := by rw [← hW]; exact (Blk.new _ _ _).cell 2
  rw [hW]
  clear hW
  have hs := (h.below hbW).more (Nat.le_of_lt hszW)
  have hs' := (h'.below hbW).more (Nat.le_of_lt hszW)
  go_wp2_with fail
  refine (l10Is_v true _ _ _ _ _ _ _ _ _ _ hs hs' hn hn' hm).mono ?_
  rintro e w2 ⟨rfl, hb2⟩
  have r0 := (hb2.cell (p := ⟨w.heap.size, 0, none⟩) hszW).trans q0
  have r1 := (hb2.cell (p := ⟨w.heap.size, 1, none⟩) hszW).trans q1
  have r2 := (hb2.cell (p := ⟨w.heap.size, 2, none⟩) hszW).trans q2
  go_wp2_with fail
  clear r0 r1 r2
  have k1 := (hs.below hb2).more hb2.size
  have k2 := (hs'.below hb2).more hb2.size
  have hbb := hbW.trans (hb2.mono (Nat.le_of_lt hszW))
  refine (l11Lag_any _ _ _ _ os D _ _ _ vs k1 k2 hok).mono ?_
  rintro e w3 ⟨v, rfl, hO, hb3⟩
  have hb2s := hb2.size
  go_wp2_with fail
  refine bodyPost_ret (v := .tuple #[v, .int .i64 0]) (by simp [results, Tryz.results29, go_sem]) rfl ?_
  exact ⟨_, by rw [hC.out], by rw [hR.out]; exact hO.less (by omega), hbW.trans ((hb2.trans (hb3.mono hb2s)).mono (Nat.le_of_lt hszW))⟩
set_option maxHeartbeats 1000000 in
theorem impl_LgM_any (w : World) (A : Option Addr) (n c : Nat) (os : List Int) (D : Int) (A' : Option Addr) (n' c' : Nat) (vs : List Int) (h : Sl w w.heap.size A n c os) (h' : Sl w w.heap.size A' n' c' vs) (hn : n ≤ 1048576) (hn' : n' ≤ 1048576) (hT : Tb w) :
  Calls Tryz.prog 22 #[.agg #[.slice A n c, .int .i64 D, .slice A' n' c']] w (MkC w (ifM os D vs (lagK os D vs)) (codeM os D vs)) := by
 obtain rfl := h'.len
 cases hm : isM os D vs with
 | false =>
  have hC := hide (show codeM os D vs = 1 by unfold codeM; rw [hm]; rfl)
  have hR := hide (show ifM os D vs (lagK os D vs) = [] by unfold ifM; rw [hm]; rfl)
  go_enter Tryz.func22, Tryz.ntmps22
  go_wp2_with fail
  obtain ⟨W, hW⟩ : ∃ W, w.alloc (.cells #[.slice A n c, .int .i64 D, .slice A' vs.length c'] 26) = W := ⟨_, rfl⟩
  have hbW : Below w.heap.size w W := by rw [← hW]; exact (by repeat (first | assumption | exact Below.refl _ _ | apply below_drewN | apply Below.drew | apply Below.alloc | apply Below.setCell | omega | (focus (simp; done)) | (focus (simp; omega))))
  have hszW : w.heap.size < W.heap.size := by rw [← hW]; simp
  have hsW := hide (show W.heap.size = w.heap.size + 1 by rw [← hW]; simp)
  have bM : Blk W w.heap.size 26 #[.slice A n c, .int .i64 D, .slice A' vs.length c'] := by rw [← hW]; exact Blk.new _ _ _
  have q0 : W.cell? ⟨w.heap.size, 0, none⟩ = some (.slice A n c) := by rw [← hW]; exact (Blk.new _ _ _).cell 0
  have q1 : W.cell? ⟨w.heap.size, 1, none⟩ = some (.int .i64 D) := by rw [← hW]; exact (Blk.new _ _ _).cell 1
  have q2 : W.cell? ⟨w.heap.size, 2, none⟩ = some (.slice A' vs.length c') := by rw [← hW]; exact (Blk.new _ _ _).cell 2
  rw [hW]
  clear hW
  have hs := (h.below hbW).more (Nat.le_of_lt hszW)
  have hs' := (h'.below hbW).more (Nat.le_of_lt hszW)
  go_wp2_with fail
  refine (implIs_v false _ _ _ _ _ _ _ _ _ _ hs hs' hn hn' hm).mono ?_
  rintro e w2 ⟨rfl, hb2⟩
  go_wp2_with fail
  refine bodyPost_ret (v := .tuple #[.slice none 0 0, .int .i64 1]) (by simp [results, Tryz.results22, go_sem]) rfl ?_
  exact ⟨_, by rw [hC.out], by rw [hR.out]; exact Ow.nil _ _, hbW.trans (hb2.mono (Nat.le_of_lt hszW))⟩
 | true =>
  have hM := isM_iff.1 hm
  have hC := hide (show codeM os D vs = 0 by unfold codeM; rw [hm]; rfl)
  have hR := hide (show ifM os D vs (lagK os D vs) = lagK os D vs by unfold ifM; rw [hm]; rfl)
  have hok := hM.ok
  have hN := hok.len
  go_enter Tryz.func22, Tryz.ntmps22
  go_wp2_with fail
  obtain ⟨W, hW⟩ : ∃ W, w.alloc (.cells #[.slice A n c, .int .i64 D, .slice A' vs.length c'] 26) = W := ⟨_, rfl⟩
  have hbW : Below w.heap.size w W := by rw [← hW]; exact (by repeat (first | assumption | exact Below.refl _ _ | apply below_drewN | apply Below.drew | apply Below.alloc | apply Below.setCell | omega | (focus (simp; done)) | (focus (simp; omega))))
  have hszW : w.heap.size < W.heap.size := by rw [← hW]; simp
  have hsW := hide (show W.heap.size = w.heap.size + 1 by rw [← hW]; simp)
  have bM : Blk W w.heap.size 26 #[.slice A n c, .int .i64 D, .slice A' vs.length c'] := by rw [← hW]; exact Blk.new _ _ _
  have q0 : W.cell? ⟨w.heap.size, 0, none⟩ = some (.slice A n c) := by rw [← hW]; exact (Blk.new _ _ _).cell 0
  have q1 : W.cell? ⟨w.heap.size, 1, none⟩ = some (.int .i64 D) := by rw [← hW]; exact (Blk.new _ _ _).cell 1
  have q2 : W.cell? ⟨w.heap.size, 2, none⟩ = some (.slice A' vs.length c') := by rw [← hW]; exact (Blk.new _ _ _).cell 2
  rw [hW]
  clear hW
  have hs := (h.below hbW).more (Nat.le_of_lt hszW)
  have hs' := (h'.below hbW).more (Nat.le_of_lt hszW)
  go_wp2_with fail
  refine (implIs_v true _ _ _ _ _ _ _ _ _ _ hs hs' hn hn' hm).mono ?_
  rintro e w2 ⟨rfl, hb2⟩
  have r0 := (hb2.cell (p := ⟨w.heap.size, 0, none⟩) hszW).trans q0
  have r1 := (hb2.cell (p := ⟨w.heap.size, 1, none⟩) hszW).trans q1
  have r2 := (hb2.cell (p := ⟨w.heap.size, 2, none⟩) hszW).trans q2
  go_wp2_with fail
  clear r0 r1 r2
  have k1 := (hs.below hb2).more hb2.size
  have k2 := (hs'.below hb2).more hb2.size
  have hbb := hbW.trans (hb2.mono (Nat.le_of_lt hszW))
  refine (lagrangianMasks_any _ _ _ _ os D _ _ _ vs k1 k2 hok (hT.bel hbb)).mono ?_
  rintro e w3 ⟨v, rfl, hO, hb3⟩
  have hb2s := hb2.size
  go_wp2_with fail
  refine bodyPost_ret (v := .tuple #[v, .int .i64 0]) (by simp [results, Tryz.results22, go_sem]) rfl ?_
  exact ⟨_, by rw [hC.out], by rw [hR.out]; exact hO.less (by omega), hbW.trans ((hb2.trans (hb3.mono hb2s)).mono (Nat.le_of_lt hszW))⟩
theorem ifM_all {os vs xs : List Int} {D : Int} (hs : IsM os D vs → ∀ x ∈ xs, x ∈ sgK os vs.length) : ∀ v ∈ ifM os D vs xs, i64ok v := by
 intro v hv
 unfold ifM at hv
 split at hv
 ·rename_i hm
  have hM := isM_iff.1 hm
  have := sgK_rng hM.ok.lt v (hs hM v hv)
  exact ⟨by omega, by omega⟩
 ·simp at hv
end Go.Proofs.YtbpihnpakolooaaGreatDoor
