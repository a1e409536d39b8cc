
/- The walks of SubgroupFrom of both sides. The walks of IsSubgroup, IsIsotropicSubgroup, OrthogonalSubgroup of both sides. FnSubgroups, plain: what the functions on subgroups return fits together. -/
import Derived.Test.YtbpihnpakolooaaGreatDoorMWy
import Derived.Test.YtbpihnpakolooaaGreatDoorU2a
import Derived.Test.YtbpihnpakolooaaGreatDoorLa
import Derived.WalkLawsBesides
import Derived.Test.YtbpihnpakolooaaGreatDoorRUa
import Derived.Test.YtbpihnpakolooaaGreatDoorCma
import Derived.Test.YtbpihnpakolooaaGreatDoorMWz
namespace Go.Proofs.YtbpihnpakolooaaGreatDoor
open Go Go.RowKit Grp
set_option linter.unusedSimpArgs false
set_option linter.unusedVariables false
set_option maxRecDepth 100000
/-- The table of what a queue holds. -/
def metC (q : List Int) (N : Nat) : Array Value := ((List.range N).map fun (x : Nat) => Value.bool (hasB q (x : Int))).toArray
theorem metC_get {q : List Int} {N j : Nat} (hj : j < N) : (metC q N)[j]? = some (.bool (hasB q (j : Int))) := by
 simp [metC, List.getElem?_range hj]
theorem hasB_snoc (q : List Int) (y v : Int) : hasB (q ++ [y]) v = (hasB q v || y == v) := by simp [hasB]
theorem metC_set (q : List Int) (N j : Nat) : (metC q N).setIfInBounds j (.bool true) = metC (q ++ [(j : Int)]) N := by
 apply Array.ext_getElem?
 intro k
 rw [Array.getElem?_setIfInBounds]
 by_cases hk : k < N
 ·rw [metC_get hk, metC_get hk, hasB_snoc]
  by_cases e : j = k
  ·subst e; simp [metC, hk]
  ·rw [if_neg e]
   have : ((j : Int) == (k : Int)) = false := by simpa using fun h => e (by omega)
   rw [this, Bool.or_false]
 ·rw [Array.getElem?_eq_none (by simp [metC]; omega), Array.getElem?_eq_none (by simp [metC]; omega)]
  split <;> rename_i h
  ·simp [metC]; omega
  ·rfl
theorem metC_made (N : Nat) : madeCells #[.bool false] N = metC [] N := by
 apply Array.toList_inj.1
 rw [toList_madeCells_one]
 apply List.ext_getElem?
 intro k
 by_cases hk : k < N
 ·simp [metC, hasB, hk]
 ·rw [List.getElem?_eq_none (by simp; omega), List.getElem?_eq_none (by simp [metC]; omega)]
theorem bool_info : (Tryz.prog.info? 4).map (fun i => (i.zero, i.size, i.bytes)) = some (some (.bool false), 1, 1) := by kernel_rfl

noncomputable def isB (os : List Int) (D : Int) (vs xs : List Int) : Bool := decide (codeS os D vs xs = 0) && isoB vs xs
noncomputable def ogL (os : List Int) (D : Int) (vs xs : List Int) : List Int := if codeS os D vs xs = 0 then ortL os D vs xs vs.length else []
set_option maxHeartbeats 2000000 in
theorem spec_Iso_any (w : World) (A : Option Addr) (n c : Nat) (os : List Int) (D : Int) (A' : Option Addr) (n' c' : Nat) (vs : List Int) (L : Option Addr) (l lc : Nat) (xs : List Int)
  (h : Sl w w.heap.size A n c os) (h' : Sl w w.heap.size A' n' c' vs) (hx : Sl w w.heap.size L l lc xs) (hn : n ≤ 1048576) (hn' : n' ≤ 1048576) (hl : l ≤ 1048576) :
  Calls Tryz.prog 11 #[.agg #[.slice A n c, .int .i64 D, .slice A' n' c'], .slice L l lc] w (ReB w (isB os D vs xs) (codeS os D vs xs)) := by
 obtain rfl := h'.len
 obtain rfl := hx.len
 have hcode := fun W A n c A' n' c' LL l lc => l11Code_any W A n c os D A' n' c' vs LL l lc xs
 obtain ⟨k, hk⟩ : ∃ k, codeS os D vs xs = k := ⟨_, rfl⟩
 rw [hk] at hcode
 by_cases hk0 : k = 0
 ·subst hk0
  obtain ⟨hM, hI, -⟩ := codeS_0 hk
  have hG := hM.ok.g
  have HM := hide hI.mem
  have HMv := hide (show ∀ x ∈ xs, 0 ≤ x ∧ x < (vs.length : Int) by rw [hM.ok.len]; exact hI.mem)
  obtain ⟨b, hb⟩ : ∃ b, isoB vs xs = b := ⟨_, rfl⟩
  have hV := hide (show isB os D vs xs = b by unfold isB; rw [hk, hb]; rfl)
  have hC := hide hk
  clear hk
  go_enter Tryz.func11, Tryz.ntmps11
  go_wp2_with fail
  obtain ⟨W, hW⟩ : ∃ W, w.alloc (.cells #[.slice A n c, .int .i64 D, .slice A' vs.length c'] 26) = W := ⟨_, rfl⟩
  have hbW : Below w.heap.size w W := by rw [← hW]; exact (by repeat (first | assumption | exact Below.refl _ _ | apply below_drewN | apply Below.drew | apply Below.alloc | apply Below.setCell | omega | (focus (simp; done)) | (focus (simp; omega))))
  have hszW : w.heap.size < W.heap.size := by rw [← hW]; simp
  have hsW := hide (show W.heap.size = w.heap.size + 1 by rw [← hW]; simp)
  have bM : Blk W w.heap.size 26 #[.slice A n c, .int .i64 D, .slice A' vs.length c'] := by rw [← hW]; exact Blk.new _ _ _
  have q0 : W.cell? ⟨w.heap.size, 0, none⟩ = some (.slice A n c) := by rw [← hW]; exact (Blk.new _ _ _).cell 0
  have q1 : W.cell? ⟨w.heap.size, 1, none⟩ = some (.int .i64 D) := by rw [← hW]; exact (Blk.new _ _ _).cell 1
  have q2 : W.cell? ⟨w.heap.size, 2, none⟩ = some (.slice A' vs.length c') := by rw [← hW]; exact (Blk.new _ _ _).cell 2
  rw [hW]
  clear hW
  have hs := (h.below hbW).more (Nat.le_of_lt hszW)
  have hs' := (h'.below hbW).more (Nat.le_of_lt hszW)
  have hxs := (hx.below hbW).more (Nat.le_of_lt hszW)
  refine (hcode _ _ _ _ _ _ _ _ _ _ hs hs' hxs hn hn' hl).mono ?_
  rintro e w2 ⟨rfl, hb2⟩
  have r0 := (hb2.cell (p := ⟨w.heap.size, 0, none⟩) hszW).trans q0
  have r1 := (hb2.cell (p := ⟨w.heap.size, 1, none⟩) hszW).trans q1
  have r2 := (hb2.cell (p := ⟨w.heap.size, 2, none⟩) hszW).trans q2
  have hs2 := (hs.below hb2).more hb2.size
  have hs2' := (hs'.below hb2).more hb2.size
  have hxs2 := (hxs.below hb2).more hb2.size
  go_wp2_with fail
  clear r0 r1 r2
  refine (l11Isotropic_any _ _ _ _ os _ _ _ _ _ _ _ _ _ hs2' hxs2 hn' hl HMv.out).mono ?_
  rw [hb]
  rintro e w3 ⟨rfl, hb3⟩
  have k3 := hb2.trans (hb3.mono hb2.size)
  clear hb
  go_wp2
  refine bodyPost_ret (v := .tuple #[.bool b, .int .i64 0]) (by simp [results, Tryz.results11, go_sem]) rfl ?_
  exact ⟨by rw [hV.out, hC.out], hbW.trans (k3.mono (Nat.le_of_lt hszW))⟩
 ·have hV := hide (show isB os D vs xs = false by unfold isB; rw [hk]; simp [hk0])
  have hkb' : (k != 0) = true := by simpa using hk0
  have hC := hide hk
  clear hk
  go_enter Tryz.func11, Tryz.ntmps11
  go_wp2_with fail
  obtain ⟨W, hW⟩ : ∃ W, w.alloc (.cells #[.slice A n c, .int .i64 D, .slice A' vs.length c'] 26) = W := ⟨_, rfl⟩
  have hbW : Below w.heap.size w W := by rw [← hW]; exact (by repeat (first | assumption | exact Below.refl _ _ | apply below_drewN | apply Below.drew | apply Below.alloc | apply Below.setCell | omega | (focus (simp; done)) | (focus (simp; omega))))
  have hszW : w.heap.size < W.heap.size := by rw [← hW]; simp
  have hsW := hide (show W.heap.size = w.heap.size + 1 by rw [← hW]; simp)
  have bM : Blk W w.heap.size 26 #[.slice A n c, .int .i64 D, .slice A' vs.length c'] := by rw [← hW]; exact Blk.new _ _ _
  have q0 : W.cell? ⟨w.heap.size, 0, none⟩ = some (.slice A n c) := by rw [← hW]; exact (Blk.new _ _ _).cell 0
  have q1 : W.cell? ⟨w.heap.size, 1, none⟩ = some (.int .i64 D) := by rw [← hW]; exact (Blk.new _ _ _).cell 1
  have q2 : W.cell? ⟨w.heap.size, 2, none⟩ = some (.slice A' vs.length c') := by rw [← hW]; exact (Blk.new _ _ _).cell 2
  rw [hW]
  clear hW
  have hs := (h.below hbW).more (Nat.le_of_lt hszW)
  have hs' := (h'.below hbW).more (Nat.le_of_lt hszW)
  have hxs := (hx.below hbW).more (Nat.le_of_lt hszW)
  refine (hcode _ _ _ _ _ _ _ _ _ _ hs hs' hxs hn hn' hl).mono ?_
  rintro e w2 ⟨rfl, hb2⟩
  have r0 := (hb2.cell (p := ⟨w.heap.size, 0, none⟩) hszW).trans q0
  have r1 := (hb2.cell (p := ⟨w.heap.size, 1, none⟩) hszW).trans q1
  have r2 := (hb2.cell (p := ⟨w.heap.size, 2, none⟩) hszW).trans q2
  have hs2 := (hs.below hb2).more hb2.size
  have hs2' := (hs'.below hb2).more hb2.size
  have hxs2 := (hxs.below hb2).more hb2.size
  go_wp2_with fail
  clear r0 r1 r2
  refine bodyPost_ret (v := .tuple #[.bool false, .int .i64 k]) (by simp [results, Tryz.results11, go_sem]) rfl ?_
  exact ⟨by rw [hV.out, hC.out], hbW.trans (hb2.mono (Nat.le_of_lt hszW))⟩
set_option maxHeartbeats 2000000 in
theorem impl_Iso_any (w : World) (A : Option Addr) (n c : Nat) (os : List Int) (D : Int) (A' : Option Addr) (n' c' : Nat) (vs : List Int) (L : Option Addr) (l lc : Nat) (xs : List Int)
  (h : Sl w w.heap.size A n c os) (h' : Sl w w.heap.size A' n' c' vs) (hx : Sl w w.heap.size L l lc xs) (hn : n ≤ 1048576) (hn' : n' ≤ 1048576) (hl : l ≤ 1048576) :
  Calls Tryz.prog 10 #[.agg #[.slice A n c, .int .i64 D, .slice A' n' c'], .slice L l lc] w (ReB w (isB os D vs xs) (codeS os D vs xs)) := by
 obtain rfl := h'.len
 obtain rfl := hx.len
 have hcode := fun W A n c A' n' c' LL l lc => subgroupCode_any W A n c os D A' n' c' vs LL l lc xs
 obtain ⟨k, hk⟩ : ∃ k, codeS os D vs xs = k := ⟨_, rfl⟩
 rw [hk] at hcode
 by_cases hk0 : k = 0
 ·subst hk0
  obtain ⟨hM, hI, -⟩ := codeS_0 hk
  have hG := hM.ok.g
  have HM := hide hI.mem
  have HMv := hide (show ∀ x ∈ xs, 0 ≤ x ∧ x < (vs.length : Int) by rw [hM.ok.len]; exact hI.mem)
  obtain ⟨b, hb⟩ : ∃ b, isoB vs xs = b := ⟨_, rfl⟩
  have hV := hide (show isB os D vs xs = b by unfold isB; rw [hk, hb]; rfl)
  have hC := hide hk
  clear hk
  go_enter Tryz.func10, Tryz.ntmps10
  go_wp2_with fail
  obtain ⟨W, hW⟩ : ∃ W, w.alloc (.cells #[.slice A n c, .int .i64 D, .slice A' vs.length c'] 26) = W := ⟨_, rfl⟩
  have hbW : Below w.heap.size w W := by rw [← hW]; exact (by repeat (first | assumption | exact Below.refl _ _ | apply below_drewN | apply Below.drew | apply Below.alloc | apply Below.setCell | omega | (focus (simp; done)) | (focus (simp; omega))))
  have hszW : w.heap.size < W.heap.size := by rw [← hW]; simp
  have hsW := hide (show W.heap.size = w.heap.size + 1 by rw [← hW]; simp)
  have bM : Blk W w.heap.size 26 #[.slice A n c, .int .i64 D, .slice A' vs.length c'] := by rw [← hW]; exact Blk.new _ _ _
  have q0 : W.cell? ⟨w.heap.size, 0, none⟩ = some (.slice A n c) := by rw [← hW]; exact (Blk.new _ _ _).cell 0
  have q1 : W.cell? ⟨w.heap.size, 1, none⟩ = some (.int .i64 D) := by rw [← hW]; exact (Blk.new _ _ _).cell 1
  have q2 : W.cell? ⟨w.heap.size, 2, none⟩ = some (.slice A' vs.length c') := by rw [← hW]; exact (Blk.new _ _ _).cell 2
  rw [hW]
  clear hW
  have hs := (h.below hbW).more (Nat.le_of_lt hszW)
  have hs' := (h'.below hbW).more (Nat.le_of_lt hszW)
  have hxs := (hx.below hbW).more (Nat.le_of_lt hszW)
  refine (hcode _ _ _ _ _ _ _ _ _ _ hs hs' hxs hn hn' hl).mono ?_
  rintro e w2 ⟨rfl, hb2⟩
  have r0 := (hb2.cell (p := ⟨w.heap.size, 0, none⟩) hszW).trans q0
  have r1 := (hb2.cell (p := ⟨w.heap.size, 1, none⟩) hszW).trans q1
  have r2 := (hb2.cell (p := ⟨w.heap.size, 2, none⟩) hszW).trans q2
  have hs2 := (hs.below hb2).more hb2.size
  have hs2' := (hs'.below hb2).more hb2.size
  have hxs2 := (hxs.below hb2).more hb2.size
  go_wp2_with fail
  clear r0 r1 r2
  refine (isIsotropic_any _ _ _ _ os _ _ _ _ _ _ _ _ _ hs2' hxs2 hn' hl HMv.out).mono ?_
  rw [hb]
  rintro e w3 ⟨rfl, hb3⟩
  have k3 := hb2.trans (hb3.mono hb2.size)
  clear hb
  go_wp2
  refine bodyPost_ret (v := .tuple #[.bool b, .int .i64 0]) (by simp [results, Tryz.results10, go_sem]) rfl ?_
  exact ⟨by rw [hV.out, hC.out], hbW.trans (k3.mono (Nat.le_of_lt hszW))⟩
 ·have hV := hide (show isB os D vs xs = false by unfold isB; rw [hk]; simp [hk0])
  have hkb' : (k != 0) = true := by simpa using hk0
  have hC := hide hk
  clear hk
  go_enter Tryz.func10, Tryz.ntmps10
  go_wp2_with fail
  obtain ⟨W, hW⟩ : ∃ W, w.alloc (.cells #[.slice A n c, .int .i64 D, .slice A' vs.length c'] 26) = W := ⟨_, rfl⟩
  have hbW : Below w.heap.size w W := by rw [← hW]; exact (by repeat (first | assumption | exact Below.refl _ _ | apply below_drewN | apply Below.drew | apply Below.alloc | apply Below.setCell | omega | (focus (simp; done)) | (focus (simp; omega))))
  have hszW : w.heap.size < W.heap.size := by rw [← hW]; simp
  have hsW := hide (show W.heap.size = w.heap.size + 1 by rw [← hW]; simp)
  have bM : Blk W w.heap.size 26 #[.slice A n c, .int .i64 D, .slice A' vs.length c'] := by rw [← hW]; exact Blk.new _ _ _
  have q0 : W.cell? ⟨w.heap.size, 0, none⟩ = some (.slice A n c) := by rw [← hW]; exact (Blk.new _ _ _).cell 0
  have q1 : W.cell? ⟨w.heap.size, 1, none⟩ = some (.int .i64 D) := by rw [← hW]; exact (Blk.new _ _ _).cell 1
  have q2 : W.cell? ⟨w.heap.size, 2, none⟩ = some (.slice A' vs.length c') := by rw [← hW]; exact (Blk.new _ _ _).cell 2
  rw [hW]
  clear hW
  have hs := (h.below hbW).more (Nat.le_of_lt hszW)
  have hs' := (h'.below hbW).more (Nat.le_of_lt hszW)
  have hxs := (hx.below hbW).more (Nat.le_of_lt hszW)
  refine (hcode _ _ _ _ _ _ _ _ _ _ hs hs' hxs hn hn' hl).mono ?_
  rintro e w2 ⟨rfl, hb2⟩
  have r0 := (hb2.cell (p := ⟨w.heap.size, 0, none⟩) hszW).trans q0
  have r1 := (hb2.cell (p := ⟨w.heap.size, 1, none⟩) hszW).trans q1
  have r2 := (hb2.cell (p := ⟨w.heap.size, 2, none⟩) hszW).trans q2
  have hs2 := (hs.below hb2).more hb2.size
  have hs2' := (hs'.below hb2).more hb2.size
  have hxs2 := (hxs.below hb2).more hb2.size
  go_wp2_with fail
  clear r0 r1 r2
  refine bodyPost_ret (v := .tuple #[.bool false, .int .i64 k]) (by simp [results, Tryz.results10, go_sem]) rfl ?_
  exact ⟨by rw [hV.out, hC.out], hbW.trans (hb2.mono (Nat.le_of_lt hszW))⟩
set_option maxHeartbeats 2000000 in
theorem impl_Ort_any (w : World) (A : Option Addr) (n c : Nat) (os : List Int) (D : Int) (A' : Option Addr) (n' c' : Nat) (vs : List Int) (L : Option Addr) (l lc : Nat) (xs : List Int)
  (h : Sl w w.heap.size A n c os) (h' : Sl w w.heap.size A' n' c' vs) (hx : Sl w w.heap.size L l lc xs) (hn : n ≤ 1048576) (hn' : n' ≤ 1048576) (hl : l ≤ 1048576) :
  Calls Tryz.prog 17 #[.agg #[.slice A n c, .int .i64 D, .slice A' n' c'], .slice L l lc] w (MkC w (ogL os D vs xs) (codeS os D vs xs)) := by
 obtain rfl := h'.len
 obtain rfl := hx.len
 have hcode := fun W A n c A' n' c' LL l lc => subgroupCode_any W A n c os D A' n' c' vs LL l lc xs
 obtain ⟨k, hk⟩ : ∃ k, codeS os D vs xs = k := ⟨_, rfl⟩
 rw [hk] at hcode
 by_cases hk0 : k = 0
 ·subst hk0
  obtain ⟨hM, hI, -⟩ := codeS_0 hk
  have hG := hM.ok.g
  have HM := hide hI.mem
  have HMv := hide (show ∀ x ∈ xs, 0 ≤ x ∧ x < (vs.length : Int) by rw [hM.ok.len]; exact hI.mem)
  obtain ⟨b, hb⟩ : ∃ b, ortL os D vs xs vs.length = b := ⟨_, rfl⟩
  have hV := hide (show ogL os D vs xs = b by unfold ogL; rw [hk, if_pos rfl, hb])
  have hC := hide hk
  clear hk
  go_enter Tryz.func17, Tryz.ntmps17
  go_wp2_with fail
  obtain ⟨W, hW⟩ : ∃ W, w.alloc (.cells #[.slice A n c, .int .i64 D, .slice A' vs.length c'] 26) = W := ⟨_, rfl⟩
  have hbW : Below w.heap.size w W := by rw [← hW]; exact (by repeat (first | assumption | exact Below.refl _ _ | apply below_drewN | apply Below.drew | apply Below.alloc | apply Below.setCell | omega | (focus (simp; done)) | (focus (simp; omega))))
  have hszW : w.heap.size < W.heap.size := by rw [← hW]; simp
  have hsW := hide (show W.heap.size = w.heap.size + 1 by rw [← hW]; simp)
  have bM : Blk W w.heap.size 26 #[.slice A n c, .int .i64 D, .slice A' vs.length c'] := by rw [← hW]; exact Blk.new _ _ _
  have q0 : W.cell? ⟨w.heap.size, 0, none⟩ = some (.slice A n c) := by rw [← hW]; exact (Blk.new _ _ _).cell 0
  have q1 : W.cell? ⟨w.heap.size, 1, none⟩ = some (.int .i64 D) := by rw [← hW]; exact (Blk.new _ _ _).cell 1
  have q2 : W.cell? ⟨w.heap.size, 2, none⟩ = some (.slice A' vs.length c') := by rw [← hW]; exact (Blk.new _ _ _).cell 2
  rw [hW]
  clear hW
  have hs := (h.below hbW).more (Nat.le_of_lt hszW)
  have hs' := (h'.below hbW).more (Nat.le_of_lt hszW)
  have hxs := (hx.below hbW).more (Nat.le_of_lt hszW)
  refine (hcode _ _ _ _ _ _ _ _ _ _ hs hs' hxs hn hn' hl).mono ?_
  rintro e w2 ⟨rfl, hb2⟩
  have r0 := (hb2.cell (p := ⟨w.heap.size, 0, none⟩) hszW).trans q0
  have r1 := (hb2.cell (p := ⟨w.heap.size, 1, none⟩) hszW).trans q1
  have r2 := (hb2.cell (p := ⟨w.heap.size, 2, none⟩) hszW).trans q2
  have hs2 := (hs.below hb2).more hb2.size
  have hs2' := (hs'.below hb2).more hb2.size
  have hxs2 := (hxs.below hb2).more hb2.size
  go_wp2_with fail
  clear r0 r1 r2
  refine (orthogonal_any _ _ _ _ _ _ _ _ _ _ _ _ _ _ hs2 hs2' hxs2 hl hM.ok HM.out).mono ?_
  rw [hb]
  rintro e w3 ⟨v, rfl, hO, hb3⟩
  have k3 := hb2.trans (hb3.mono hb2.size)
  have hz2 := hb2.size
  clear hb
  go_wp2
  refine bodyPost_ret (v := .tuple #[v, .int .i64 0]) (by simp [results, Tryz.results17, go_sem]) rfl ?_
  exact ⟨_, by rw [hC.out], by rw [hV.out]; exact hO.less (by omega), hbW.trans (k3.mono (Nat.le_of_lt hszW))⟩
 ·have hV := hide (show ogL os D vs xs = [] by unfold ogL; rw [hk, if_neg hk0])
  have hkb' : (k != 0) = true := by simpa using hk0
  have hC := hide hk
  clear hk
  go_enter Tryz.func17, Tryz.ntmps17
  go_wp2_with fail
  obtain ⟨W, hW⟩ : ∃ W, w.alloc (.cells #[.slice A n c, .int .i64 D, .slice A' vs.length c'] 26) = W := ⟨_, rfl⟩
  have hbW : Below w.heap.size w W := by rw [← hW]; exact (by repeat (first | assumption | exact Below.refl _ _ | apply below_drewN | apply Below.drew | apply Below.alloc | apply Below.setCell | omega | (focus (simp; done)) | (focus (simp; omega))))
  have hszW : w.heap.size < W.heap.size := by rw [← hW]; simp
  have hsW := hide (show W.heap.size = w.heap.size + 1 by rw [← hW]; simp)
  have bM : Blk W w.heap.size 26 #[.slice A n c, .int .i64 D, .slice A' vs.length c'] := by rw [← hW]; exact Blk.new _ _ _
  have q0 : W.cell? ⟨w.heap.size, 0, none⟩ = some (.slice A n c) := by rw [← hW]; exact (Blk.new _ _ _).cell 0
  have q1 : W.cell? ⟨w.heap.size, 1, none⟩ = some (.int .i64 D) := by rw [← hW]; exact (Blk.new _ _ _).cell 1
  have q2 : W.cell? ⟨w.heap.size, 2, none⟩ = some (.slice A' vs.length c') := by rw [← hW]; exact (Blk.new _ _ _).cell 2
  rw [hW]
  clear hW
  have hs := (h.below hbW).more (Nat.le_of_lt hszW)
  have hs' := (h'.below hbW).more (Nat.le_of_lt hszW)
  have hxs := (hx.below hbW).more (Nat.le_of_lt hszW)
  refine (hcode _ _ _ _ _ _ _ _ _ _ hs hs' hxs hn hn' hl).mono ?_
  rintro e w2 ⟨rfl, hb2⟩
  have r0 := (hb2.cell (p := ⟨w.heap.size, 0, none⟩) hszW).trans q0
  have r1 := (hb2.cell (p := ⟨w.heap.size, 1, none⟩) hszW).trans q1
  have r2 := (hb2.cell (p := ⟨w.heap.size, 2, none⟩) hszW).trans q2
  have hs2 := (hs.below hb2).more hb2.size
  have hs2' := (hs'.below hb2).more hb2.size
  have hxs2 := (hxs.below hb2).more hb2.size
  go_wp2_with fail
  clear r0 r1 r2
  refine bodyPost_ret (v := .tuple #[.slice none 0 0, .int .i64 k]) (by simp [results, Tryz.results17, go_sem]) rfl ?_
  exact ⟨_, by rw [hC.out], by rw [hV.out]; exact Ow.nil _ _, hbW.trans (hb2.mono (Nat.le_of_lt hszW))⟩
theorem IsLst.lt {N : Int} {xs : List Int} (h : IsLst N xs) : xs.Pairwise (· < ·) := by
 rw [List.pairwise_iff_getElem]
 intro i j hi hj hij
 have key : ∀ d, i + 1 + d < xs.length → gi xs i < gi xs (i + 1 + d) := by
  intro d
  induction d with
  | zero => intro hl; have := (h (i + 1) hl).2 (by omega); simpa using this
  | succ d ih =>
   intro hl
   have h1 := ih (by omega)
   have h2 := (h (i + 1 + (d + 1)) hl).2 (by omega)
   rw [show i + 1 + (d + 1) - 1 = i + 1 + d by omega] at h2
   omega
 have h1 := key (j - (i + 1)) (by omega)
 rw [show i + 1 + (j - (i + 1)) = j by omega] at h1
 have e : ∀ (k : Nat) (hk : k < xs.length), gi xs k = xs[k] := fun k hk => by unfold gi; rw [List.getD_eq_getElem?_getD, List.getElem?_eq_getElem hk]; rfl
 rw [e i hi, e j hj] at h1
 exact h1
section
variable {os vs xs : List Int} {D : Int}
/-- The mask of a subgroup is one of all masks. -/
theorem msk_all (hM : IsM os D vs) (hH : SbM os vs xs) : ((msk xs : Nat) : Int) ∈ sgK os vs.length := by
 unfold sgK
 refine List.mem_map.2 ⟨msk xs, mem_allK.2 ⟨msk_lt fun x hx => hH.rng x hx, ?_⟩, rfl⟩
 rw [mems_msk hH.lt hH.rng]
 exact hH.sb
end
end Go.Proofs.YtbpihnpakolooaaGreatDoor
