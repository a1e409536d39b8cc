/- The walks of IsSubgroup, IsIsotropicSubgroup, OrthogonalSubgroup of both sides. -/
import Derived.Test.YtmnljlefjafcdaaU5
import Derived.Test.YtmnljlefjafcdaaLO
import Derived.WalkLawsBesides
namespace Go.Proofs.Ytmnljlefjafcdaa
open Go Go.RowKit Grp
set_option linter.unusedSimpArgs false
set_option linter.unusedVariables false

noncomputable def sgB (os : List Int) (D : Int) (vs xs : List Int) : Bool := decide (codeL os D vs xs = 0) && clB os xs
noncomputable def isB (os : List Int) (D : Int) (vs xs : List Int) : Bool := decide (codeS os D vs xs = 0) && isoB vs xs
noncomputable def ogL (os : List Int) (D : Int) (vs xs : List Int) : List Int := if codeS os D vs xs = 0 then ortL os D vs xs vs.length else []
set_option maxHeartbeats 2000000 in
theorem spec_Sub_any (w : World) (A : Option Addr) (n c : Nat) (os : List Int) (D : Int) (A' : Option Addr) (n' c' : Nat) (vs : List Int) (L : Option Addr) (l lc : Nat) (xs : List Int)
    (h : Sl w w.heap.size A n c os) (h' : Sl w w.heap.size A' n' c' vs) (hx : Sl w w.heap.size L l lc xs) (hn : n ≤ 1048576) (hn' : n' ≤ 1048576) (hl : l ≤ 1048576) :
    Calls Try.prog 34 #[.agg #[.slice A n c, .int .i64 D, .slice A' n' c'], .slice L l lc] w (ReB w (sgB os D vs xs) (codeL os D vs xs)) := by
  obtain rfl := h'.len
  obtain rfl := hx.len
  have hcode := fun W A n c A' n' c' LL l lc => l11List_any W A n c os D A' n' c' vs LL l lc xs
  obtain ⟨k, hk⟩ : ∃ k, codeL os D vs xs = k := ⟨_, rfl⟩
  rw [hk] at hcode
  by_cases hk0 : k = 0
  · subst hk0
    obtain ⟨hM, hI⟩ := codeL_0 hk
    have hG := hM.ok.g
    have HI := hide hI
    obtain ⟨b, hb⟩ : ∃ b, clB os xs = b := ⟨_, rfl⟩
    have hV := hide (show sgB os D vs xs = b by unfold sgB; rw [hk, hb]; rfl)
    have hC := hide hk
    clear hk
    go_enter Try.func34, Try.ntmps34
    go_wp2_with fail
    obtain ⟨W, hW⟩ : ∃ W, w.alloc (.cells #[.slice A n c, .int .i64 D, .slice A' vs.length c'] 28) = W := ⟨_, rfl⟩
    have hbW : Below w.heap.size w W := by rw [← hW]; exact (by repeat (first | assumption | exact Below.refl _ _ | apply below_drewN | apply Below.drew | apply Below.alloc | apply Below.setCell | omega | (focus (simp; done)) | (focus (simp; omega))))
    have hszW : w.heap.size < W.heap.size := by rw [← hW]; simp
    have hsW := hide (show W.heap.size = w.heap.size + 1 by rw [← hW]; simp)
    have bM : Blk W w.heap.size 28 #[.slice A n c, .int .i64 D, .slice A' vs.length c'] := by rw [← hW]; exact Blk.new _ _ _
    have q0 : W.cell? ⟨w.heap.size, 0, none⟩ = some (.slice A n c) := by rw [← hW]; exact (Blk.new _ _ _).cell 0
    have q1 : W.cell? ⟨w.heap.size, 1, none⟩ = some (.int .i64 D) := by rw [← hW]; exact (Blk.new _ _ _).cell 1
    have q2 : W.cell? ⟨w.heap.size, 2, none⟩ = some (.slice A' vs.length c') := by rw [← hW]; exact (Blk.new _ _ _).cell 2
    rw [hW]
    clear hW
    have hs := (h.below hbW).more (Nat.le_of_lt hszW)
    have hs' := (h'.below hbW).more (Nat.le_of_lt hszW)
    have hxs := (hx.below hbW).more (Nat.le_of_lt hszW)
    refine (hcode _ _ _ _ _ _ _ _ _ _ hs hs' hxs hn hn' hl).mono ?_
    rintro e w2 ⟨rfl, hb2⟩
    have r0 := (hb2.cell (p := ⟨w.heap.size, 0, none⟩) hszW).trans q0
    have r1 := (hb2.cell (p := ⟨w.heap.size, 1, none⟩) hszW).trans q1
    have r2 := (hb2.cell (p := ⟨w.heap.size, 2, none⟩) hszW).trans q2
    have hs2 := (hs.below hb2).more hb2.size
    have hs2' := (hs'.below hb2).more hb2.size
    have hxs2 := (hxs.below hb2).more hb2.size
    go_wp2_with fail
    clear r0 r1 r2
    refine (l11Closed_any _ _ _ _ _ _ _ _ _ _ _ _ _ hs2 hxs2 hG HI.out).mono ?_
    rw [hb]
    rintro e w3 ⟨rfl, hb3⟩
    have k3 := hb2.trans (hb3.mono hb2.size)
    clear hb
    go_wp2
    refine bodyPost_ret (v := .tuple #[.bool b, .int .i64 0]) (by simp [results, Try.results34, go_sem]) rfl ?_
    exact ⟨by rw [hV.out, hC.out], hbW.trans (k3.mono (Nat.le_of_lt hszW))⟩
  · have hV := hide (show sgB os D vs xs = false by unfold sgB; rw [hk]; simp [hk0])
    have hkb' : (k != 0) = true := by simpa using hk0
    have hC := hide hk
    clear hk
    go_enter Try.func34, Try.ntmps34
    go_wp2_with fail
    obtain ⟨W, hW⟩ : ∃ W, w.alloc (.cells #[.slice A n c, .int .i64 D, .slice A' vs.length c'] 28) = W := ⟨_, rfl⟩
    have hbW : Below w.heap.size w W := by rw [← hW]; exact (by repeat (first | assumption | exact Below.refl _ _ | apply below_drewN | apply Below.drew | apply Below.alloc | apply Below.setCell | omega | (focus (simp; done)) | (focus (simp; omega))))
    have hszW : w.heap.size < W.heap.size := by rw [← hW]; simp
    have hsW := hide (show W.heap.size = w.heap.size + 1 by rw [← hW]; simp)
    have bM : Blk W w.heap.size 28 #[.slice A n c, .int .i64 D, .slice A' vs.length c'] := by rw [← hW]; exact Blk.new _ _ _
    have q0 : W.cell? ⟨w.heap.size, 0, none⟩ = some (.slice A n c) := by rw [← hW]; exact (Blk.new _ _ _).cell 0
    have q1 : W.cell? ⟨w.heap.size, 1, none⟩ = some (.int .i64 D) := by rw [← hW]; exact (Blk.new _ _ _).cell 1
    have q2 : W.cell? ⟨w.heap.size, 2, none⟩ = some (.slice A' vs.length c') := by rw [← hW]; exact (Blk.new _ _ _).cell 2
    rw [hW]
    clear hW
    have hs := (h.below hbW).more (Nat.le_of_lt hszW)
    have hs' := (h'.below hbW).more (Nat.le_of_lt hszW)
    have hxs := (hx.below hbW).more (Nat.le_of_lt hszW)
    refine (hcode _ _ _ _ _ _ _ _ _ _ hs hs' hxs hn hn' hl).mono ?_
    rintro e w2 ⟨rfl, hb2⟩
    have r0 := (hb2.cell (p := ⟨w.heap.size, 0, none⟩) hszW).trans q0
    have r1 := (hb2.cell (p := ⟨w.heap.size, 1, none⟩) hszW).trans q1
    have r2 := (hb2.cell (p := ⟨w.heap.size, 2, none⟩) hszW).trans q2
    have hs2 := (hs.below hb2).more hb2.size
    have hs2' := (hs'.below hb2).more hb2.size
    have hxs2 := (hxs.below hb2).more hb2.size
    go_wp2_with fail
    clear r0 r1 r2
    refine bodyPost_ret (v := .tuple #[.bool false, .int .i64 k]) (by simp [results, Try.results34, go_sem]) rfl ?_
    exact ⟨by rw [hV.out, hC.out], hbW.trans (hb2.mono (Nat.le_of_lt hszW))⟩
set_option maxHeartbeats 2000000 in
theorem impl_Sub_any (w : World) (A : Option Addr) (n c : Nat) (os : List Int) (D : Int) (A' : Option Addr) (n' c' : Nat) (vs : List Int) (L : Option Addr) (l lc : Nat) (xs : List Int)
    (h : Sl w w.heap.size A n c os) (h' : Sl w w.heap.size A' n' c' vs) (hx : Sl w w.heap.size L l lc xs) (hn : n ≤ 1048576) (hn' : n' ≤ 1048576) (hl : l ≤ 1048576) :
    Calls Try.prog 35 #[.agg #[.slice A n c, .int .i64 D, .slice A' n' c'], .slice L l lc] w (ReB w (sgB os D vs xs) (codeL os D vs xs)) := by
  obtain rfl := h'.len
  obtain rfl := hx.len
  have hcode := fun W A n c A' n' c' LL l lc => listCode_any W A n c os D A' n' c' vs LL l lc xs
  obtain ⟨k, hk⟩ : ∃ k, codeL os D vs xs = k := ⟨_, rfl⟩
  rw [hk] at hcode
  by_cases hk0 : k = 0
  · subst hk0
    obtain ⟨hM, hI⟩ := codeL_0 hk
    have hG := hM.ok.g
    have HI := hide hI
    obtain ⟨b, hb⟩ : ∃ b, clB os xs = b := ⟨_, rfl⟩
    have hV := hide (show sgB os D vs xs = b by unfold sgB; rw [hk, hb]; rfl)
    have hC := hide hk
    clear hk
    go_enter Try.func35, Try.ntmps35
    go_wp2_with fail
    obtain ⟨W, hW⟩ : ∃ W, w.alloc (.cells #[.slice A n c, .int .i64 D, .slice A' vs.length c'] 28) = W := ⟨_, rfl⟩
    have hbW : Below w.heap.size w W := by rw [← hW]; exact (by repeat (first | assumption | exact Below.refl _ _ | apply below_drewN | apply Below.drew | apply Below.alloc | apply Below.setCell | omega | (focus (simp; done)) | (focus (simp; omega))))
    have hszW : w.heap.size < W.heap.size := by rw [← hW]; simp
    have hsW := hide (show W.heap.size = w.heap.size + 1 by rw [← hW]; simp)
    have bM : Blk W w.heap.size 28 #[.slice A n c, .int .i64 D, .slice A' vs.length c'] := by rw [← hW]; exact Blk.new _ _ _
    have q0 : W.cell? ⟨w.heap.size, 0, none⟩ = some (.slice A n c) := by rw [← hW]; exact (Blk.new _ _ _).cell 0
    have q1 : W.cell? ⟨w.heap.size, 1, none⟩ = some (.int .i64 D) := by rw [← hW]; exact (Blk.new _ _ _).cell 1
    have q2 : W.cell? ⟨w.heap.size, 2, none⟩ = some (.slice A' vs.length c') := by rw [← hW]; exact (Blk.new _ _ _).cell 2
    rw [hW]
    clear hW
    have hs := (h.below hbW).more (Nat.le_of_lt hszW)
    have hs' := (h'.below hbW).more (Nat.le_of_lt hszW)
    have hxs := (hx.below hbW).more (Nat.le_of_lt hszW)
    refine (hcode _ _ _ _ _ _ _ _ _ _ hs hs' hxs hn hn' hl).mono ?_
    rintro e w2 ⟨rfl, hb2⟩
    have r0 := (hb2.cell (p := ⟨w.heap.size, 0, none⟩) hszW).trans q0
    have r1 := (hb2.cell (p := ⟨w.heap.size, 1, none⟩) hszW).trans q1
    have r2 := (hb2.cell (p := ⟨w.heap.size, 2, none⟩) hszW).trans q2
    have hs2 := (hs.below hb2).more hb2.size
    have hs2' := (hs'.below hb2).more hb2.size
    have hxs2 := (hxs.below hb2).more hb2.size
    go_wp2_with fail
    clear r0 r1 r2
    refine (isSubgroup_any _ _ _ _ _ _ _ _ _ hs2 hxs2 hG HI.out).mono ?_
    rw [hb]
    rintro e w3 ⟨rfl, hb3⟩
    have k3 := hb2.trans (hb3.mono hb2.size)
    clear hb
    go_wp2
    refine bodyPost_ret (v := .tuple #[.bool b, .int .i64 0]) (by simp [results, Try.results35, go_sem]) rfl ?_
    exact ⟨by rw [hV.out, hC.out], hbW.trans (k3.mono (Nat.le_of_lt hszW))⟩
  · have hV := hide (show sgB os D vs xs = false by unfold sgB; rw [hk]; simp [hk0])
    have hkb' : (k != 0) = true := by simpa using hk0
    have hC := hide hk
    clear hk
    go_enter Try.func35, Try.ntmps35
    go_wp2_with fail
    obtain ⟨W, hW⟩ : ∃ W, w.alloc (.cells #[.slice A n c, .int .i64 D, .slice A' vs.length c'] 28) = W := ⟨_, rfl⟩
    have hbW : Below w.heap.size w W := by rw [← hW]; exact (by repeat (first | assumption | exact Below.refl _ _ | apply below_drewN | apply Below.drew | apply Below.alloc | apply Below.setCell | omega | (focus (simp; done)) | (focus (simp; omega))))
    have hszW : w.heap.size < W.heap.size := by rw [← hW]; simp
    have hsW := hide (show W.heap.size = w.heap.size + 1 by rw [← hW]; simp)
    have bM : Blk W w.heap.size 28 #[.slice A n c, .int .i64 D, .slice A' vs.length c'] := by rw [← hW]; exact Blk.new _ _ _
    have q0 : W.cell? ⟨w.heap.size, 0, none⟩ = some (.slice A n c) := by rw [← hW]; exact (Blk.new _ _ _).cell 0
    have q1 : W.cell? ⟨w.heap.size, 1, none⟩ = some (.int .i64 D) := by rw [← hW]; exact (Blk.new _ _ _).cell 1
    have q2 : W.cell? ⟨w.heap.size, 2, none⟩ = some (.slice A' vs.length c') := by rw [← hW]; exact (Blk.new _ _ _).cell 2
    rw [hW]
    clear hW
    have hs := (h.below hbW).more (Nat.le_of_lt hszW)
    have hs' := (h'.below hbW).more (Nat.le_of_lt hszW)
    have hxs := (hx.below hbW).more (Nat.le_of_lt hszW)
    refine (hcode _ _ _ _ _ _ _ _ _ _ hs hs' hxs hn hn' hl).mono ?_
    rintro e w2 ⟨rfl, hb2⟩
    have r0 := (hb2.cell (p := ⟨w.heap.size, 0, none⟩) hszW).trans q0
    have r1 := (hb2.cell (p := ⟨w.heap.size, 1, none⟩) hszW).trans q1
    have r2 := (hb2.cell (p := ⟨w.heap.size, 2, none⟩) hszW).trans q2
    have hs2 := (hs.below hb2).more hb2.size
    have hs2' := (hs'.below hb2).more hb2.size
    have hxs2 := (hxs.below hb2).more hb2.size
    go_wp2_with fail
    clear r0 r1 r2
    refine bodyPost_ret (v := .tuple #[.bool false, .int .i64 k]) (by simp [results, Try.results35, go_sem]) rfl ?_
    exact ⟨by rw [hV.out, hC.out], hbW.trans (hb2.mono (Nat.le_of_lt hszW))⟩
set_option maxHeartbeats 2000000 in
theorem spec_Iso_any (w : World) (A : Option Addr) (n c : Nat) (os : List Int) (D : Int) (A' : Option Addr) (n' c' : Nat) (vs : List Int) (L : Option Addr) (l lc : Nat) (xs : List Int)
    (h : Sl w w.heap.size A n c os) (h' : Sl w w.heap.size A' n' c' vs) (hx : Sl w w.heap.size L l lc xs) (hn : n ≤ 1048576) (hn' : n' ≤ 1048576) (hl : l ≤ 1048576) :
    Calls Try.prog 36 #[.agg #[.slice A n c, .int .i64 D, .slice A' n' c'], .slice L l lc] w (ReB w (isB os D vs xs) (codeS os D vs xs)) := by
  obtain rfl := h'.len
  obtain rfl := hx.len
  have hcode := fun W A n c A' n' c' LL l lc => l11Code_any W A n c os D A' n' c' vs LL l lc xs
  obtain ⟨k, hk⟩ : ∃ k, codeS os D vs xs = k := ⟨_, rfl⟩
  rw [hk] at hcode
  by_cases hk0 : k = 0
  · subst hk0
    obtain ⟨hM, hI, -⟩ := codeS_0 hk
    have hG := hM.ok.g
    have HM := hide hI.mem
    have HMv := hide (show ∀ x ∈ xs, 0 ≤ x ∧ x < (vs.length : Int) by rw [hM.ok.len]; exact hI.mem)
    obtain ⟨b, hb⟩ : ∃ b, isoB vs xs = b := ⟨_, rfl⟩
    have hV := hide (show isB os D vs xs = b by unfold isB; rw [hk, hb]; rfl)
    have hC := hide hk
    clear hk
    go_enter Try.func36, Try.ntmps36
    go_wp2_with fail
    obtain ⟨W, hW⟩ : ∃ W, w.alloc (.cells #[.slice A n c, .int .i64 D, .slice A' vs.length c'] 28) = W := ⟨_, rfl⟩
    have hbW : Below w.heap.size w W := by rw [← hW]; exact (by repeat (first | assumption | exact Below.refl _ _ | apply below_drewN | apply Below.drew | apply Below.alloc | apply Below.setCell | omega | (focus (simp; done)) | (focus (simp; omega))))
    have hszW : w.heap.size < W.heap.size := by rw [← hW]; simp
    have hsW := hide (show W.heap.size = w.heap.size + 1 by rw [← hW]; simp)
    have bM : Blk W w.heap.size 28 #[.slice A n c, .int .i64 D, .slice A' vs.length c'] := by rw [← hW]; exact Blk.new _ _ _
    have q0 : W.cell? ⟨w.heap.size, 0, none⟩ = some (.slice A n c) := by rw [← hW]; exact (Blk.new _ _ _).cell 0
    have q1 : W.cell? ⟨w.heap.size, 1, none⟩ = some (.int .i64 D) := by rw [← hW]; exact (Blk.new _ _ _).cell 1
    have q2 : W.cell? ⟨w.heap.size, 2, none⟩ = some (.slice A' vs.length c') := by rw [← hW]; exact (Blk.new _ _ _).cell 2
    rw [hW]
    clear hW
    have hs := (h.below hbW).more (Nat.le_of_lt hszW)
    have hs' := (h'.below hbW).more (Nat.le_of_lt hszW)
    have hxs := (hx.below hbW).more (Nat.le_of_lt hszW)
    refine (hcode _ _ _ _ _ _ _ _ _ _ hs hs' hxs hn hn' hl).mono ?_
    rintro e w2 ⟨rfl, hb2⟩
    have r0 := (hb2.cell (p := ⟨w.heap.size, 0, none⟩) hszW).trans q0
    have r1 := (hb2.cell (p := ⟨w.heap.size, 1, none⟩) hszW).trans q1
    have r2 := (hb2.cell (p := ⟨w.heap.size, 2, none⟩) hszW).trans q2
    have hs2 := (hs.below hb2).more hb2.size
    have hs2' := (hs'.below hb2).more hb2.size
    have hxs2 := (hxs.below hb2).more hb2.size
    go_wp2_with fail
    clear r0 r1 r2
    refine (l11Isotropic_any _ _ _ _ os _ _ _ _ _ _ _ _ _ hs2' hxs2 hn' hl HMv.out).mono ?_
    rw [hb]
    rintro e w3 ⟨rfl, hb3⟩
    have k3 := hb2.trans (hb3.mono hb2.size)
    clear hb
    go_wp2
    refine bodyPost_ret (v := .tuple #[.bool b, .int .i64 0]) (by simp [results, Try.results36, go_sem]) rfl ?_
    exact ⟨by rw [hV.out, hC.out], hbW.trans (k3.mono (Nat.le_of_lt hszW))⟩
  · have hV := hide (show isB os D vs xs = false by unfold isB; rw [hk]; simp [hk0])
    have hkb' : (k != 0) = true := by simpa using hk0
    have hC := hide hk
    clear hk
    go_enter Try.func36, Try.ntmps36
    go_wp2_with fail
    obtain ⟨W, hW⟩ : ∃ W, w.alloc (.cells #[.slice A n c, .int .i64 D, .slice A' vs.length c'] 28) = W := ⟨_, rfl⟩
    have hbW : Below w.heap.size w W := by rw [← hW]; exact (by repeat (first | assumption | exact Below.refl _ _ | apply below_drewN | apply Below.drew | apply Below.alloc | apply Below.setCell | omega | (focus (simp; done)) | (focus (simp; omega))))
    have hszW : w.heap.size < W.heap.size := by rw [← hW]; simp
    have hsW := hide (show W.heap.size = w.heap.size + 1 by rw [← hW]; simp)
    have bM : Blk W w.heap.size 28 #[.slice A n c, .int .i64 D, .slice A' vs.length c'] := by rw [← hW]; exact Blk.new _ _ _
    have q0 : W.cell? ⟨w.heap.size, 0, none⟩ = some (.slice A n c) := by rw [← hW]; exact (Blk.new _ _ _).cell 0
    have q1 : W.cell? ⟨w.heap.size, 1, none⟩ = some (.int .i64 D) := by rw [← hW]; exact (Blk.new _ _ _).cell 1
    have q2 : W.cell? ⟨w.heap.size, 2, none⟩ = some (.slice A' vs.length c') := by rw [← hW]; exact (Blk.new _ _ _).cell 2
    rw [hW]
    clear hW
    have hs := (h.below hbW).more (Nat.le_of_lt hszW)
    have hs' := (h'.below hbW).more (Nat.le_of_lt hszW)
    have hxs := (hx.below hbW).more (Nat.le_of_lt hszW)
    refine (hcode _ _ _ _ _ _ _ _ _ _ hs hs' hxs hn hn' hl).mono ?_
    rintro e w2 ⟨rfl, hb2⟩
    have r0 := (hb2.cell (p := ⟨w.heap.size, 0, none⟩) hszW).trans q0
    have r1 := (hb2.cell (p := ⟨w.heap.size, 1, none⟩) hszW).trans q1
    have r2 := (hb2.cell (p := ⟨w.heap.size, 2, none⟩) hszW).trans q2
    have hs2 := (hs.below hb2).more hb2.size
    have hs2' := (hs'.below hb2).more hb2.size
    have hxs2 := (hxs.below hb2).more hb2.size
    go_wp2_with fail
    clear r0 r1 r2
    refine bodyPost_ret (v := .tuple #[.bool false, .int .i64 k]) (by simp [results, Try.results36, go_sem]) rfl ?_
    exact ⟨by rw [hV.out, hC.out], hbW.trans (hb2.mono (Nat.le_of_lt hszW))⟩
set_option maxHeartbeats 2000000 in
theorem impl_Iso_any (w : World) (A : Option Addr) (n c : Nat) (os : List Int) (D : Int) (A' : Option Addr) (n' c' : Nat) (vs : List Int) (L : Option Addr) (l lc : Nat) (xs : List Int)
    (h : Sl w w.heap.size A n c os) (h' : Sl w w.heap.size A' n' c' vs) (hx : Sl w w.heap.size L l lc xs) (hn : n ≤ 1048576) (hn' : n' ≤ 1048576) (hl : l ≤ 1048576) :
    Calls Try.prog 37 #[.agg #[.slice A n c, .int .i64 D, .slice A' n' c'], .slice L l lc] w (ReB w (isB os D vs xs) (codeS os D vs xs)) := by
  obtain rfl := h'.len
  obtain rfl := hx.len
  have hcode := fun W A n c A' n' c' LL l lc => subgroupCode_any W A n c os D A' n' c' vs LL l lc xs
  obtain ⟨k, hk⟩ : ∃ k, codeS os D vs xs = k := ⟨_, rfl⟩
  rw [hk] at hcode
  by_cases hk0 : k = 0
  · subst hk0
    obtain ⟨hM, hI, -⟩ := codeS_0 hk
    have hG := hM.ok.g
    have HM := hide hI.mem
    have HMv := hide (show ∀ x ∈ xs, 0 ≤ x ∧ x < (vs.length : Int) by rw [hM.ok.len]; exact hI.mem)
    obtain ⟨b, hb⟩ : ∃ b, isoB vs xs = b := ⟨_, rfl⟩
    have hV := hide (show isB os D vs xs = b by unfold isB; rw [hk, hb]; rfl)
    have hC := hide hk
    clear hk
    go_enter Try.func37, Try.ntmps37
    go_wp2_with fail
    obtain ⟨W, hW⟩ : ∃ W, w.alloc (.cells #[.slice A n c, .int .i64 D, .slice A' vs.length c'] 28) = W := ⟨_, rfl⟩
    have hbW : Below w.heap.size w W := by rw [← hW]; exact (by repeat (first | assumption | exact Below.refl _ _ | apply below_drewN | apply Below.drew | apply Below.alloc | apply Below.setCell | omega | (focus (simp; done)) | (focus (simp; omega))))
    have hszW : w.heap.size < W.heap.size := by rw [← hW]; simp
    have hsW := hide (show W.heap.size = w.heap.size + 1 by rw [← hW]; simp)
    have bM : Blk W w.heap.size 28 #[.slice A n c, .int .i64 D, .slice A' vs.length c'] := by rw [← hW]; exact Blk.new _ _ _
    have q0 : W.cell? ⟨w.heap.size, 0, none⟩ = some (.slice A n c) := by rw [← hW]; exact (Blk.new _ _ _).cell 0
    have q1 : W.cell? ⟨w.heap.size, 1, none⟩ = some (.int .i64 D) := by rw [← hW]; exact (Blk.new _ _ _).cell 1
    have q2 : W.cell? ⟨w.heap.size, 2, none⟩ = some (.slice A' vs.length c') := by rw [← hW]; exact (Blk.new _ _ _).cell 2
    rw [hW]
    clear hW
    have hs := (h.below hbW).more (Nat.le_of_lt hszW)
    have hs' := (h'.below hbW).more (Nat.le_of_lt hszW)
    have hxs := (hx.below hbW).more (Nat.le_of_lt hszW)
    refine (hcode _ _ _ _ _ _ _ _ _ _ hs hs' hxs hn hn' hl).mono ?_
    rintro e w2 ⟨rfl, hb2⟩
    have r0 := (hb2.cell (p := ⟨w.heap.size, 0, none⟩) hszW).trans q0
    have r1 := (hb2.cell (p := ⟨w.heap.size, 1, none⟩) hszW).trans q1
    have r2 := (hb2.cell (p := ⟨w.heap.size, 2, none⟩) hszW).trans q2
    have hs2 := (hs.below hb2).more hb2.size
    have hs2' := (hs'.below hb2).more hb2.size
    have hxs2 := (hxs.below hb2).more hb2.size
    go_wp2_with fail
    clear r0 r1 r2
    refine (isIsotropic_any _ _ _ _ os _ _ _ _ _ _ _ _ _ hs2' hxs2 hn' hl HMv.out).mono ?_
    rw [hb]
    rintro e w3 ⟨rfl, hb3⟩
    have k3 := hb2.trans (hb3.mono hb2.size)
    clear hb
    go_wp2
    refine bodyPost_ret (v := .tuple #[.bool b, .int .i64 0]) (by simp [results, Try.results37, go_sem]) rfl ?_
    exact ⟨by rw [hV.out, hC.out], hbW.trans (k3.mono (Nat.le_of_lt hszW))⟩
  · have hV := hide (show isB os D vs xs = false by unfold isB; rw [hk]; simp [hk0])
    have hkb' : (k != 0) = true := by simpa using hk0
    have hC := hide hk
    clear hk
    go_enter Try.func37, Try.ntmps37
    go_wp2_with fail
    obtain ⟨W, hW⟩ : ∃ W, w.alloc (.cells #[.slice A n c, .int .i64 D, .slice A' vs.length c'] 28) = W := ⟨_, rfl⟩
    have hbW : Below w.heap.size w W := by rw [← hW]; exact (by repeat (first | assumption | exact Below.refl _ _ | apply below_drewN | apply Below.drew | apply Below.alloc | apply Below.setCell | omega | (focus (simp; done)) | (focus (simp; omega))))
    have hszW : w.heap.size < W.heap.size := by rw [← hW]; simp
    have hsW := hide (show W.heap.size = w.heap.size + 1 by rw [← hW]; simp)
    have bM : Blk W w.heap.size 28 #[.slice A n c, .int .i64 D, .slice A' vs.length c'] := by rw [← hW]; exact Blk.new _ _ _
    have q0 : W.cell? ⟨w.heap.size, 0, none⟩ = some (.slice A n c) := by rw [← hW]; exact (Blk.new _ _ _).cell 0
    have q1 : W.cell? ⟨w.heap.size, 1, none⟩ = some (.int .i64 D) := by rw [← hW]; exact (Blk.new _ _ _).cell 1
    have q2 : W.cell? ⟨w.heap.size, 2, none⟩ = some (.slice A' vs.length c') := by rw [← hW]; exact (Blk.new _ _ _).cell 2
    rw [hW]
    clear hW
    have hs := (h.below hbW).more (Nat.le_of_lt hszW)
    have hs' := (h'.below hbW).more (Nat.le_of_lt hszW)
    have hxs := (hx.below hbW).more (Nat.le_of_lt hszW)
    refine (hcode _ _ _ _ _ _ _ _ _ _ hs hs' hxs hn hn' hl).mono ?_
    rintro e w2 ⟨rfl, hb2⟩
    have r0 := (hb2.cell (p := ⟨w.heap.size, 0, none⟩) hszW).trans q0
    have r1 := (hb2.cell (p := ⟨w.heap.size, 1, none⟩) hszW).trans q1
    have r2 := (hb2.cell (p := ⟨w.heap.size, 2, none⟩) hszW).trans q2
    have hs2 := (hs.below hb2).more hb2.size
    have hs2' := (hs'.below hb2).more hb2.size
    have hxs2 := (hxs.below hb2).more hb2.size
    go_wp2_with fail
    clear r0 r1 r2
    refine bodyPost_ret (v := .tuple #[.bool false, .int .i64 k]) (by simp [results, Try.results37, go_sem]) rfl ?_
    exact ⟨by rw [hV.out, hC.out], hbW.trans (hb2.mono (Nat.le_of_lt hszW))⟩
set_option maxHeartbeats 2000000 in
theorem spec_Ort_any (w : World) (A : Option Addr) (n c : Nat) (os : List Int) (D : Int) (A' : Option Addr) (n' c' : Nat) (vs : List Int) (L : Option Addr) (l lc : Nat) (xs : List Int)
    (h : Sl w w.heap.size A n c os) (h' : Sl w w.heap.size A' n' c' vs) (hx : Sl w w.heap.size L l lc xs) (hn : n ≤ 1048576) (hn' : n' ≤ 1048576) (hl : l ≤ 1048576) :
    Calls Try.prog 38 #[.agg #[.slice A n c, .int .i64 D, .slice A' n' c'], .slice L l lc] w (MkC w (ogL os D vs xs) (codeS os D vs xs)) := by
  obtain rfl := h'.len
  obtain rfl := hx.len
  have hcode := fun W A n c A' n' c' LL l lc => l11Code_any W A n c os D A' n' c' vs LL l lc xs
  obtain ⟨k, hk⟩ : ∃ k, codeS os D vs xs = k := ⟨_, rfl⟩
  rw [hk] at hcode
  by_cases hk0 : k = 0
  · subst hk0
    obtain ⟨hM, hI, -⟩ := codeS_0 hk
    have hG := hM.ok.g
    have HM := hide hI.mem
    have HMv := hide (show ∀ x ∈ xs, 0 ≤ x ∧ x < (vs.length : Int) by rw [hM.ok.len]; exact hI.mem)
    obtain ⟨b, hb⟩ : ∃ b, ortL os D vs xs vs.length = b := ⟨_, rfl⟩
    have hV := hide (show ogL os D vs xs = b by unfold ogL; rw [hk, if_pos rfl, hb])
    have hC := hide hk
    clear hk
    go_enter Try.func38, Try.ntmps38
    go_wp2_with fail
    obtain ⟨W, hW⟩ : ∃ W, w.alloc (.cells #[.slice A n c, .int .i64 D, .slice A' vs.length c'] 28) = W := ⟨_, rfl⟩
    have hbW : Below w.heap.size w W := by rw [← hW]; exact (by repeat (first | assumption | exact Below.refl _ _ | apply below_drewN | apply Below.drew | apply Below.alloc | apply Below.setCell | omega | (focus (simp; done)) | (focus (simp; omega))))
    have hszW : w.heap.size < W.heap.size := by rw [← hW]; simp
    have hsW := hide (show W.heap.size = w.heap.size + 1 by rw [← hW]; simp)
    have bM : Blk W w.heap.size 28 #[.slice A n c, .int .i64 D, .slice A' vs.length c'] := by rw [← hW]; exact Blk.new _ _ _
    have q0 : W.cell? ⟨w.heap.size, 0, none⟩ = some (.slice A n c) := by rw [← hW]; exact (Blk.new _ _ _).cell 0
    have q1 : W.cell? ⟨w.heap.size, 1, none⟩ = some (.int .i64 D) := by rw [← hW]; exact (Blk.new _ _ _).cell 1
    have q2 : W.cell? ⟨w.heap.size, 2, none⟩ = some (.slice A' vs.length c') := by rw [← hW]; exact (Blk.new _ _ _).cell 2
    rw [hW]
    clear hW
    have hs := (h.below hbW).more (Nat.le_of_lt hszW)
    have hs' := (h'.below hbW).more (Nat.le_of_lt hszW)
    have hxs := (hx.below hbW).more (Nat.le_of_lt hszW)
    refine (hcode _ _ _ _ _ _ _ _ _ _ hs hs' hxs hn hn' hl).mono ?_
    rintro e w2 ⟨rfl, hb2⟩
    have r0 := (hb2.cell (p := ⟨w.heap.size, 0, none⟩) hszW).trans q0
    have r1 := (hb2.cell (p := ⟨w.heap.size, 1, none⟩) hszW).trans q1
    have r2 := (hb2.cell (p := ⟨w.heap.size, 2, none⟩) hszW).trans q2
    have hs2 := (hs.below hb2).more hb2.size
    have hs2' := (hs'.below hb2).more hb2.size
    have hxs2 := (hxs.below hb2).more hb2.size
    go_wp2_with fail
    clear r0 r1 r2
    refine (l11Orthogonal_any _ _ _ _ _ _ _ _ _ _ _ _ _ _ hs2 hs2' hxs2 hl hM.ok HM.out).mono ?_
    rw [hb]
    rintro e w3 ⟨v, rfl, hO, hb3⟩
    have k3 := hb2.trans (hb3.mono hb2.size)
    have hz2 := hb2.size
    clear hb
    go_wp2
    refine bodyPost_ret (v := .tuple #[v, .int .i64 0]) (by simp [results, Try.results38, go_sem]) rfl ?_
    exact ⟨_, by rw [hC.out], by rw [hV.out]; exact hO.less (by omega), hbW.trans (k3.mono (Nat.le_of_lt hszW))⟩
  · have hV := hide (show ogL os D vs xs = [] by unfold ogL; rw [hk, if_neg hk0])
    have hkb' : (k != 0) = true := by simpa using hk0
    have hC := hide hk
    clear hk
    go_enter Try.func38, Try.ntmps38
    go_wp2_with fail
    obtain ⟨W, hW⟩ : ∃ W, w.alloc (.cells #[.slice A n c, .int .i64 D, .slice A' vs.length c'] 28) = W := ⟨_, rfl⟩
    have hbW : Below w.heap.size w W := by rw [← hW]; exact (by repeat (first | assumption | exact Below.refl _ _ | apply below_drewN | apply Below.drew | apply Below.alloc | apply Below.setCell | omega | (focus (simp; done)) | (focus (simp; omega))))
    have hszW : w.heap.size < W.heap.size := by rw [← hW]; simp
    have hsW := hide (show W.heap.size = w.heap.size + 1 by rw [← hW]; simp)
    have bM : Blk W w.heap.size 28 #[.slice A n c, .int .i64 D, .slice A' vs.length c'] := by rw [← hW]; exact Blk.new _ _ _
    have q0 : W.cell? ⟨w.heap.size, 0, none⟩ = some (.slice A n c) := by rw [← hW]; exact (Blk.new _ _ _).cell 0
    have q1 : W.cell? ⟨w.heap.size, 1, none⟩ = some (.int .i64 D) := by rw [← hW]; exact (Blk.new _ _ _).cell 1
    have q2 : W.cell? ⟨w.heap.size, 2, none⟩ = some (.slice A' vs.length c') := by rw [← hW]; exact (Blk.new _ _ _).cell 2
    rw [hW]
    clear hW
    have hs := (h.below hbW).more (Nat.le_of_lt hszW)
    have hs' := (h'.below hbW).more (Nat.le_of_lt hszW)
    have hxs := (hx.below hbW).more (Nat.le_of_lt hszW)
    refine (hcode _ _ _ _ _ _ _ _ _ _ hs hs' hxs hn hn' hl).mono ?_
    rintro e w2 ⟨rfl, hb2⟩
    have r0 := (hb2.cell (p := ⟨w.heap.size, 0, none⟩) hszW).trans q0
    have r1 := (hb2.cell (p := ⟨w.heap.size, 1, none⟩) hszW).trans q1
    have r2 := (hb2.cell (p := ⟨w.heap.size, 2, none⟩) hszW).trans q2
    have hs2 := (hs.below hb2).more hb2.size
    have hs2' := (hs'.below hb2).more hb2.size
    have hxs2 := (hxs.below hb2).more hb2.size
    go_wp2_with fail
    clear r0 r1 r2
    refine bodyPost_ret (v := .tuple #[.slice none 0 0, .int .i64 k]) (by simp [results, Try.results38, go_sem]) rfl ?_
    exact ⟨_, by rw [hC.out], by rw [hV.out]; exact Ow.nil _ _, hbW.trans (hb2.mono (Nat.le_of_lt hszW))⟩
set_option maxHeartbeats 2000000 in
theorem impl_Ort_any (w : World) (A : Option Addr) (n c : Nat) (os : List Int) (D : Int) (A' : Option Addr) (n' c' : Nat) (vs : List Int) (L : Option Addr) (l lc : Nat) (xs : List Int)
    (h : Sl w w.heap.size A n c os) (h' : Sl w w.heap.size A' n' c' vs) (hx : Sl w w.heap.size L l lc xs) (hn : n ≤ 1048576) (hn' : n' ≤ 1048576) (hl : l ≤ 1048576) :
    Calls Try.prog 39 #[.agg #[.slice A n c, .int .i64 D, .slice A' n' c'], .slice L l lc] w (MkC w (ogL os D vs xs) (codeS os D vs xs)) := by
  obtain rfl := h'.len
  obtain rfl := hx.len
  have hcode := fun W A n c A' n' c' LL l lc => subgroupCode_any W A n c os D A' n' c' vs LL l lc xs
  obtain ⟨k, hk⟩ : ∃ k, codeS os D vs xs = k := ⟨_, rfl⟩
  rw [hk] at hcode
  by_cases hk0 : k = 0
  · subst hk0
    obtain ⟨hM, hI, -⟩ := codeS_0 hk
    have hG := hM.ok.g
    have HM := hide hI.mem
    have HMv := hide (show ∀ x ∈ xs, 0 ≤ x ∧ x < (vs.length : Int) by rw [hM.ok.len]; exact hI.mem)
    obtain ⟨b, hb⟩ : ∃ b, ortL os D vs xs vs.length = b := ⟨_, rfl⟩
    have hV := hide (show ogL os D vs xs = b by unfold ogL; rw [hk, if_pos rfl, hb])
    have hC := hide hk
    clear hk
    go_enter Try.func39, Try.ntmps39
    go_wp2_with fail
    obtain ⟨W, hW⟩ : ∃ W, w.alloc (.cells #[.slice A n c, .int .i64 D, .slice A' vs.length c'] 28) = W := ⟨_, rfl⟩
    have hbW : Below w.heap.size w W := by rw [← hW]; exact (by repeat (first | assumption | exact Below.refl _ _ | apply below_drewN | apply Below.drew | apply Below.alloc | apply Below.setCell | omega | (focus (simp; done)) | (focus (simp; omega))))
    have hszW : w.heap.size < W.heap.size := by rw [← hW]; simp
    have hsW := hide (show W.heap.size = w.heap.size + 1 by rw [← hW]; simp)
    have bM : Blk W w.heap.size 28 #[.slice A n c, .int .i64 D, .slice A' vs.length c'] := by rw [← hW]; exact Blk.new _ _ _
    have q0 : W.cell? ⟨w.heap.size, 0, none⟩ = some (.slice A n c) := by rw [← hW]; exact (Blk.new _ _ _).cell 0
    have q1 : W.cell? ⟨w.heap.size, 1, none⟩ = some (.int .i64 D) := by rw [← hW]; exact (Blk.new _ _ _).cell 1
    have q2 : W.cell? ⟨w.heap.size, 2, none⟩ = some (.slice A' vs.length c') := by rw [← hW]; exact (Blk.new _ _ _).cell 2
    rw [hW]
    clear hW
    have hs := (h.below hbW).more (Nat.le_of_lt hszW)
    have hs' := (h'.below hbW).more (Nat.le_of_lt hszW)
    have hxs := (hx.below hbW).more (Nat.le_of_lt hszW)
    refine (hcode _ _ _ _ _ _ _ _ _ _ hs hs' hxs hn hn' hl).mono ?_
    rintro e w2 ⟨rfl, hb2⟩
    have r0 := (hb2.cell (p := ⟨w.heap.size, 0, none⟩) hszW).trans q0
    have r1 := (hb2.cell (p := ⟨w.heap.size, 1, none⟩) hszW).trans q1
    have r2 := (hb2.cell (p := ⟨w.heap.size, 2, none⟩) hszW).trans q2
    have hs2 := (hs.below hb2).more hb2.size
    have hs2' := (hs'.below hb2).more hb2.size
    have hxs2 := (hxs.below hb2).more hb2.size
    go_wp2_with fail
    clear r0 r1 r2
    refine (orthogonal_any _ _ _ _ _ _ _ _ _ _ _ _ _ _ hs2 hs2' hxs2 hl hM.ok HM.out).mono ?_
    rw [hb]
    rintro e w3 ⟨v, rfl, hO, hb3⟩
    have k3 := hb2.trans (hb3.mono hb2.size)
    have hz2 := hb2.size
    clear hb
    go_wp2
    refine bodyPost_ret (v := .tuple #[v, .int .i64 0]) (by simp [results, Try.results39, go_sem]) rfl ?_
    exact ⟨_, by rw [hC.out], by rw [hV.out]; exact hO.less (by omega), hbW.trans (k3.mono (Nat.le_of_lt hszW))⟩
  · have hV := hide (show ogL os D vs xs = [] by unfold ogL; rw [hk, if_neg hk0])
    have hkb' : (k != 0) = true := by simpa using hk0
    have hC := hide hk
    clear hk
    go_enter Try.func39, Try.ntmps39
    go_wp2_with fail
    obtain ⟨W, hW⟩ : ∃ W, w.alloc (.cells #[.slice A n c, .int .i64 D, .slice A' vs.length c'] 28) = W := ⟨_, rfl⟩
    have hbW : Below w.heap.size w W := by rw [← hW]; exact (by repeat (first | assumption | exact Below.refl _ _ | apply below_drewN | apply Below.drew | apply Below.alloc | apply Below.setCell | omega | (focus (simp; done)) | (focus (simp; omega))))
    have hszW : w.heap.size < W.heap.size := by rw [← hW]; simp
    have hsW := hide (show W.heap.size = w.heap.size + 1 by rw [← hW]; simp)
    have bM : Blk W w.heap.size 28 #[.slice A n c, .int .i64 D, .slice A' vs.length c'] := by rw [← hW]; exact Blk.new _ _ _
    have q0 : W.cell? ⟨w.heap.size, 0, none⟩ = some (.slice A n c) := by rw [← hW]; exact (Blk.new _ _ _).cell 0
    have q1 : W.cell? ⟨w.heap.size, 1, none⟩ = some (.int .i64 D) := by rw [← hW]; exact (Blk.new _ _ _).cell 1
    have q2 : W.cell? ⟨w.heap.size, 2, none⟩ = some (.slice A' vs.length c') := by rw [← hW]; exact (Blk.new _ _ _).cell 2
    rw [hW]
    clear hW
    have hs := (h.below hbW).more (Nat.le_of_lt hszW)
    have hs' := (h'.below hbW).more (Nat.le_of_lt hszW)
    have hxs := (hx.below hbW).more (Nat.le_of_lt hszW)
    refine (hcode _ _ _ _ _ _ _ _ _ _ hs hs' hxs hn hn' hl).mono ?_
    rintro e w2 ⟨rfl, hb2⟩
    have r0 := (hb2.cell (p := ⟨w.heap.size, 0, none⟩) hszW).trans q0
    have r1 := (hb2.cell (p := ⟨w.heap.size, 1, none⟩) hszW).trans q1
    have r2 := (hb2.cell (p := ⟨w.heap.size, 2, none⟩) hszW).trans q2
    have hs2 := (hs.below hb2).more hb2.size
    have hs2' := (hs'.below hb2).more hb2.size
    have hxs2 := (hxs.below hb2).more hb2.size
    go_wp2_with fail
    clear r0 r1 r2
    refine bodyPost_ret (v := .tuple #[.slice none 0 0, .int .i64 k]) (by simp [results, Try.results39, go_sem]) rfl ?_
    exact ⟨_, by rw [hC.out], by rw [hV.out]; exact Ow.nil _ _, hbW.trans (hb2.mono (Nat.le_of_lt hszW))⟩
end Go.Proofs.Ytmnljlefjafcdaa
