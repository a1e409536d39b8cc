
/- The functions on masks that a user calls, of both sides. -/
import Derived.Test.YtlekbkjkkoefnaaDoorMW6
import Derived.Test.YtlekbkjkkoefnaaDoorLa
namespace Go.Proofs.YtlekbkjkkoefnaaDoor
open Go Go.RowKit Grp
set_option linter.unusedSimpArgs false
set_option linter.unusedVariables false
/-- The first of the longest lists of elements of masks. -/
def bestL (N : Nat) (ms : List Int) : List Int := ms.foldl (fun b m => if b.length < (mems N m.toNat).length then mems N m.toNat else b) []
theorem bestL_snoc {N k : Nat} {ms : List Int} (hk : k < ms.length) : bestL N (ms.take (k + 1)) = if (bestL N (ms.take k)).length < (mems N (gi ms k).toNat).length then mems N (gi ms k).toNat else bestL N (ms.take k) := by
  unfold bestL; rw [take_gi hk, List.foldl_append]; rfl
theorem bestL_mem {N : Nat} (ms : List Int) : ∀ x ∈ bestL N ms, 0 ≤ x ∧ x < N := by
  have key : ∀ (ms b : List Int), (∀ x ∈ b, 0 ≤ x ∧ x < (N : Int)) → ∀ x ∈ ms.foldl (fun b m => if b.length < (mems N m.toNat).length then mems N m.toNat else b) b, 0 ≤ x ∧ x < N := by
    intro ms
    induction ms with
    | nil => intro b hb; exact hb
    | cons m r ih =>
      intro b hb
      rw [List.foldl_cons]
      refine ih _ ?_
      split
      · exact mems_rng
      · exact hb
  exact key ms [] (by simp)
theorem bestL_len (N : Nat) (ms : List Int) : (bestL N ms).length ≤ N := by
  have key : ∀ (ms b : List Int), b.length ≤ N → (ms.foldl (fun b m => if b.length < (mems N m.toNat).length then mems N m.toNat else b) b).length ≤ N := by
    intro ms
    induction ms with
    | nil => intro b hb; exact hb
    | cons m r ih =>
      intro b hb
      rw [List.foldl_cons]
      refine ih _ ?_
      split
      · exact mems_len _ _
      · exact hb
  exact key ms [] (by simp)
/-- A result where there is a metric. -/
noncomputable def ifM (os : List Int) (D : Int) (vs xs : List Int) : List Int := if isM os D vs = true then xs else []
set_option maxHeartbeats 1000000 in
theorem spec_SM_any (w : World) (A : Option Addr) (n c : Nat) (os : List Int) (D : Int) (A' : Option Addr) (n' c' : Nat) (vs : List Int) (h : Sl w w.heap.size A n c os) (h' : Sl w w.heap.size A' n' c' vs) (hn : n ≤ 1048576) (hn' : n' ≤ 1048576) :
    Calls Tryd.prog 11 #[.agg #[.slice A n c, .int .i64 D, .slice A' n' c']] w (MkC w (ifM os D vs (sgK os vs.length)) (codeM os D vs)) := by
  obtain rfl := h'.len
  cases hm : isM os D vs with
  | false =>
    have hC := hide (show codeM os D vs = 1 by unfold codeM; rw [hm]; rfl)
    have hR := hide (show ifM os D vs (sgK os vs.length) = [] by unfold ifM; rw [hm]; rfl)
    go_enter Tryd.func11, Tryd.ntmps11
    go_wp2_with fail
    obtain ⟨W, hW⟩ : ∃ W, w.alloc (.cells #[.slice A n c, .int .i64 D, .slice A' vs.length c'] 28) = W := ⟨_, rfl⟩
    have hbW : Below w.heap.size w W := by rw [← hW]; exact (by repeat (first | assumption | exact Below.refl _ _ | apply below_drewN | apply Below.drew | apply Below.alloc | apply Below.setCell | omega | (focus (simp; done)) | (focus (simp; omega))))
    have hszW : w.heap.size < W.heap.size := by rw [← hW]; simp
    have hsW := hide (show W.heap.size = w.heap.size + 1 by rw [← hW]; simp)
    have bM : Blk W w.heap.size 28 #[.slice A n c, .int .i64 D, .slice A' vs.length c'] := by rw [← hW]; exact Blk.new _ _ _
    have q0 : W.cell? ⟨w.heap.size, 0, none⟩ = some (.slice A n c) := by rw [← hW]; exact (Blk.new _ _ _).cell 0
    have q1 : W.cell? ⟨w.heap.size, 1, none⟩ = some (.int .i64 D) := by rw [← hW]; exact (Blk.new _ _ _).cell 1
    have q2 : W.cell? ⟨w.heap.size, 2, none⟩ = some (.slice A' vs.length c') := by rw [← hW]; exact (Blk.new _ _ _).cell 2
    rw [hW]
    clear hW
    have hs := (h.below hbW).more (Nat.le_of_lt hszW)
    have hs' := (h'.below hbW).more (Nat.le_of_lt hszW)
    go_wp2_with fail
    refine (l10Is_v false _ _ _ _ _ _ _ _ _ _ hs hs' hn hn' hm).mono ?_
    rintro e w2 ⟨rfl, hb2⟩
    go_wp2_with fail
    refine bodyPost_ret (v := .tuple #[.slice none 0 0, .int .i64 1]) (by simp [results, Tryd.results11, go_sem]) rfl ?_
    exact ⟨_, by rw [hC.out], by rw [hR.out]; exact Ow.nil _ _, hbW.trans (hb2.mono (Nat.le_of_lt hszW))⟩
  | true =>
    have hM := isM_iff.1 hm
    have hC := hide (show codeM os D vs = 0 by unfold codeM; rw [hm]; rfl)
    have hR := hide (show ifM os D vs (sgK os vs.length) = sgK os vs.length by unfold ifM; rw [hm]; rfl)
    have hok := hM.ok
    have hN := hok.len
    go_enter Tryd.func11, Tryd.ntmps11
    go_wp2_with fail
    obtain ⟨W, hW⟩ : ∃ W, w.alloc (.cells #[.slice A n c, .int .i64 D, .slice A' vs.length c'] 28) = W := ⟨_, rfl⟩
    have hbW : Below w.heap.size w W := by rw [← hW]; exact (by repeat (first | assumption | exact Below.refl _ _ | apply below_drewN | apply Below.drew | apply Below.alloc | apply Below.setCell | omega | (focus (simp; done)) | (focus (simp; omega))))
    have hszW : w.heap.size < W.heap.size := by rw [← hW]; simp
    have hsW := hide (show W.heap.size = w.heap.size + 1 by rw [← hW]; simp)
    have bM : Blk W w.heap.size 28 #[.slice A n c, .int .i64 D, .slice A' vs.length c'] := by rw [← hW]; exact Blk.new _ _ _
    have q0 : W.cell? ⟨w.heap.size, 0, none⟩ = some (.slice A n c) := by rw [← hW]; exact (Blk.new _ _ _).cell 0
    have q1 : W.cell? ⟨w.heap.size, 1, none⟩ = some (.int .i64 D) := by rw [← hW]; exact (Blk.new _ _ _).cell 1
    have q2 : W.cell? ⟨w.heap.size, 2, none⟩ = some (.slice A' vs.length c') := by rw [← hW]; exact (Blk.new _ _ _).cell 2
    rw [hW]
    clear hW
    have hs := (h.below hbW).more (Nat.le_of_lt hszW)
    have hs' := (h'.below hbW).more (Nat.le_of_lt hszW)
    go_wp2_with fail
    refine (l10Is_v true _ _ _ _ _ _ _ _ _ _ hs hs' hn hn' hm).mono ?_
    rintro e w2 ⟨rfl, hb2⟩
    have r0 := (hb2.cell (p := ⟨w.heap.size, 0, none⟩) hszW).trans q0
    have r1 := (hb2.cell (p := ⟨w.heap.size, 1, none⟩) hszW).trans q1
    have r2 := (hb2.cell (p := ⟨w.heap.size, 2, none⟩) hszW).trans q2
    go_wp2_with fail
    clear r0 r1 r2
    have k1 := (hs.below hb2).more hb2.size
    have k2 := (hs'.below hb2).more hb2.size
    have hbb := hbW.trans (hb2.mono (Nat.le_of_lt hszW))
    refine (l11Masks_any _ _ _ _ os D _ _ _ vs.length k1 hok.g hN.symm).mono ?_
    rintro e w3 ⟨v, rfl, hO, hb3⟩
    have hb2s := hb2.size
    go_wp2_with fail
    refine bodyPost_ret (v := .tuple #[v, .int .i64 0]) (by simp [results, Tryd.results11, go_sem]) rfl ?_
    exact ⟨_, by rw [hC.out], by rw [hR.out]; exact hO.less (by omega), hbW.trans ((hb2.trans (hb3.mono hb2s)).mono (Nat.le_of_lt hszW))⟩
set_option maxHeartbeats 1000000 in
theorem impl_SM_any (w : World) (A : Option Addr) (n c : Nat) (os : List Int) (D : Int) (A' : Option Addr) (n' c' : Nat) (vs : List Int) (h : Sl w w.heap.size A n c os) (h' : Sl w w.heap.size A' n' c' vs) (hn : n ≤ 1048576) (hn' : n' ≤ 1048576) (hT : Tb w) :
    Calls Tryd.prog 13 #[.agg #[.slice A n c, .int .i64 D, .slice A' n' c']] w (MkC w (ifM os D vs (sgK os vs.length)) (codeM os D vs)) := by
  obtain rfl := h'.len
  cases hm : isM os D vs with
  | false =>
    have hC := hide (show codeM os D vs = 1 by unfold codeM; rw [hm]; rfl)
    have hR := hide (show ifM os D vs (sgK os vs.length) = [] by unfold ifM; rw [hm]; rfl)
    go_enter Tryd.func13, Tryd.ntmps13
    go_wp2_with fail
    obtain ⟨W, hW⟩ : ∃ W, w.alloc (.cells #[.slice A n c, .int .i64 D, .slice A' vs.length c'] 28) = W := ⟨_, rfl⟩
    have hbW : Below w.heap.size w W := by rw [← hW]; exact (by repeat (first | assumption | exact Below.refl _ _ | apply below_drewN | apply Below.drew | apply Below.alloc | apply Below.setCell | omega | (focus (simp; done)) | (focus (simp; omega))))
    have hszW : w.heap.size < W.heap.size := by rw [← hW]; simp
    have hsW := hide (show W.heap.size = w.heap.size + 1 by rw [← hW]; simp)
    have bM : Blk W w.heap.size 28 #[.slice A n c, .int .i64 D, .slice A' vs.length c'] := by rw [← hW]; exact Blk.new _ _ _
    have q0 : W.cell? ⟨w.heap.size, 0, none⟩ = some (.slice A n c) := by rw [← hW]; exact (Blk.new _ _ _).cell 0
    have q1 : W.cell? ⟨w.heap.size, 1, none⟩ = some (.int .i64 D) := by rw [← hW]; exact (Blk.new _ _ _).cell 1
    have q2 : W.cell? ⟨w.heap.size, 2, none⟩ = some (.slice A' vs.length c') := by rw [← hW]; exact (Blk.new _ _ _).cell 2
    rw [hW]
    clear hW
    have hs := (h.below hbW).more (Nat.le_of_lt hszW)
    have hs' := (h'.below hbW).more (Nat.le_of_lt hszW)
    go_wp2_with fail
    refine (implIs_v false _ _ _ _ _ _ _ _ _ _ hs hs' hn hn' hm).mono ?_
    rintro e w2 ⟨rfl, hb2⟩
    go_wp2_with fail
    refine bodyPost_ret (v := .tuple #[.slice none 0 0, .int .i64 1]) (by simp [results, Tryd.results13, go_sem]) rfl ?_
    exact ⟨_, by rw [hC.out], by rw [hR.out]; exact Ow.nil _ _, hbW.trans (hb2.mono (Nat.le_of_lt hszW))⟩
  | true =>
    have hM := isM_iff.1 hm
    have hC := hide (show codeM os D vs = 0 by unfold codeM; rw [hm]; rfl)
    have hR := hide (show ifM os D vs (sgK os vs.length) = sgK os vs.length by unfold ifM; rw [hm]; rfl)
    have hok := hM.ok
    have hN := hok.len
    go_enter Tryd.func13, Tryd.ntmps13
    go_wp2_with fail
    obtain ⟨W, hW⟩ : ∃ W, w.alloc (.cells #[.slice A n c, .int .i64 D, .slice A' vs.length c'] 28) = W := ⟨_, rfl⟩
    have hbW : Below w.heap.size w W := by rw [← hW]; exact (by repeat (first | assumption | exact Below.refl _ _ | apply below_drewN | apply Below.drew | apply Below.alloc | apply Below.setCell | omega | (focus (simp; done)) | (focus (simp; omega))))
    have hszW : w.heap.size < W.heap.size := by rw [← hW]; simp
    have hsW := hide (show W.heap.size = w.heap.size + 1 by rw [← hW]; simp)
    have bM : Blk W w.heap.size 28 #[.slice A n c, .int .i64 D, .slice A' vs.length c'] := by rw [← hW]; exact Blk.new _ _ _
    have q0 : W.cell? ⟨w.heap.size, 0, none⟩ = some (.slice A n c) := by rw [← hW]; exact (Blk.new _ _ _).cell 0
    have q1 : W.cell? ⟨w.heap.size, 1, none⟩ = some (.int .i64 D) := by rw [← hW]; exact (Blk.new _ _ _).cell 1
    have q2 : W.cell? ⟨w.heap.size, 2, none⟩ = some (.slice A' vs.length c') := by rw [← hW]; exact (Blk.new _ _ _).cell 2
    rw [hW]
    clear hW
    have hs := (h.below hbW).more (Nat.le_of_lt hszW)
    have hs' := (h'.below hbW).more (Nat.le_of_lt hszW)
    go_wp2_with fail
    refine (implIs_v true _ _ _ _ _ _ _ _ _ _ hs hs' hn hn' hm).mono ?_
    rintro e w2 ⟨rfl, hb2⟩
    have r0 := (hb2.cell (p := ⟨w.heap.size, 0, none⟩) hszW).trans q0
    have r1 := (hb2.cell (p := ⟨w.heap.size, 1, none⟩) hszW).trans q1
    have r2 := (hb2.cell (p := ⟨w.heap.size, 2, none⟩) hszW).trans q2
    go_wp2_with fail
    clear r0 r1 r2
    have k1 := (hs.below hb2).more hb2.size
    have k2 := (hs'.below hb2).more hb2.size
    have hbb := hbW.trans (hb2.mono (Nat.le_of_lt hszW))
    refine (subgroupMasks_any _ _ _ _ os D _ _ vs.length k1 hok.g hN.symm (hT.bel hbb)).mono ?_
    rintro e w3 ⟨v, rfl, hO, hb3⟩
    have hb2s := hb2.size
    go_wp2_with fail
    refine bodyPost_ret (v := .tuple #[v, .int .i64 0]) (by simp [results, Tryd.results13, go_sem]) rfl ?_
    exact ⟨_, by rw [hC.out], by rw [hR.out]; exact hO.less (by omega), hbW.trans ((hb2.trans (hb3.mono hb2s)).mono (Nat.le_of_lt hszW))⟩
set_option maxHeartbeats 1000000 in
theorem spec_IM_any (w : World) (A : Option Addr) (n c : Nat) (os : List Int) (D : Int) (A' : Option Addr) (n' c' : Nat) (vs : List Int) (h : Sl w w.heap.size A n c os) (h' : Sl w w.heap.size A' n' c' vs) (hn : n ≤ 1048576) (hn' : n' ≤ 1048576) :
    Calls Tryd.prog 19 #[.agg #[.slice A n c, .int .i64 D, .slice A' n' c']] w (MkC w (ifM os D vs (isoK os vs)) (codeM os D vs)) := by
  obtain rfl := h'.len
  cases hm : isM os D vs with
  | false =>
    have hC := hide (show codeM os D vs = 1 by unfold codeM; rw [hm]; rfl)
    have hR := hide (show ifM os D vs (isoK os vs) = [] by unfold ifM; rw [hm]; rfl)
    go_enter Tryd.func19, Tryd.ntmps19
    go_wp2_with fail
    obtain ⟨W, hW⟩ : ∃ W, w.alloc (.cells #[.slice A n c, .int .i64 D, .slice A' vs.length c'] 28) = W := ⟨_, rfl⟩
    have hbW : Below w.heap.size w W := by rw [← hW]; exact (by repeat (first | assumption | exact Below.refl _ _ | apply below_drewN | apply Below.drew | apply Below.alloc | apply Below.setCell | omega | (focus (simp; done)) | (focus (simp; omega))))
    have hszW : w.heap.size < W.heap.size := by rw [← hW]; simp
    have hsW := hide (show W.heap.size = w.heap.size + 1 by rw [← hW]; simp)
    have bM : Blk W w.heap.size 28 #[.slice A n c, .int .i64 D, .slice A' vs.length c'] := by rw [← hW]; exact Blk.new _ _ _
    have q0 : W.cell? ⟨w.heap.size, 0, none⟩ = some (.slice A n c) := by rw [← hW]; exact (Blk.new _ _ _).cell 0
    have q1 : W.cell? ⟨w.heap.size, 1, none⟩ = some (.int .i64 D) := by rw [← hW]; exact (Blk.new _ _ _).cell 1
    have q2 : W.cell? ⟨w.heap.size, 2, none⟩ = some (.slice A' vs.length c') := by rw [← hW]; exact (Blk.new _ _ _).cell 2
    rw [hW]
    clear hW
    have hs := (h.below hbW).more (Nat.le_of_lt hszW)
    have hs' := (h'.below hbW).more (Nat.le_of_lt hszW)
    go_wp2_with fail
    refine (l10Is_v false _ _ _ _ _ _ _ _ _ _ hs hs' hn hn' hm).mono ?_
    rintro e w2 ⟨rfl, hb2⟩
    go_wp2_with fail
    refine bodyPost_ret (v := .tuple #[.slice none 0 0, .int .i64 1]) (by simp [results, Tryd.results19, go_sem]) rfl ?_
    exact ⟨_, by rw [hC.out], by rw [hR.out]; exact Ow.nil _ _, hbW.trans (hb2.mono (Nat.le_of_lt hszW))⟩
  | true =>
    have hM := isM_iff.1 hm
    have hC := hide (show codeM os D vs = 0 by unfold codeM; rw [hm]; rfl)
    have hR := hide (show ifM os D vs (isoK os vs) = isoK os vs by unfold ifM; rw [hm]; rfl)
    have hok := hM.ok
    have hN := hok.len
    go_enter Tryd.func19, Tryd.ntmps19
    go_wp2_with fail
    obtain ⟨W, hW⟩ : ∃ W, w.alloc (.cells #[.slice A n c, .int .i64 D, .slice A' vs.length c'] 28) = W := ⟨_, rfl⟩
    have hbW : Below w.heap.size w W := by rw [← hW]; exact (by repeat (first | assumption | exact Below.refl _ _ | apply below_drewN | apply Below.drew | apply Below.alloc | apply Below.setCell | omega | (focus (simp; done)) | (focus (simp; omega))))
    have hszW : w.heap.size < W.heap.size := by rw [← hW]; simp
    have hsW := hide (show W.heap.size = w.heap.size + 1 by rw [← hW]; simp)
    have bM : Blk W w.heap.size 28 #[.slice A n c, .int .i64 D, .slice A' vs.length c'] := by rw [← hW]; exact Blk.new _ _ _
    have q0 : W.cell? ⟨w.heap.size, 0, none⟩ = some (.slice A n c) := by rw [← hW]; exact (Blk.new _ _ _).cell 0
    have q1 : W.cell? ⟨w.heap.size, 1, none⟩ = some (.int .i64 D) := by rw [← hW]; exact (Blk.new _ _ _).cell 1
    have q2 : W.cell? ⟨w.heap.size, 2, none⟩ = some (.slice A' vs.length c') := by rw [← hW]; exact (Blk.new _ _ _).cell 2
    rw [hW]
    clear hW
    have hs := (h.below hbW).more (Nat.le_of_lt hszW)
    have hs' := (h'.below hbW).more (Nat.le_of_lt hszW)
    go_wp2_with fail
    refine (l10Is_v true _ _ _ _ _ _ _ _ _ _ hs hs' hn hn' hm).mono ?_
    rintro e w2 ⟨rfl, hb2⟩
    have r0 := (hb2.cell (p := ⟨w.heap.size, 0, none⟩) hszW).trans q0
    have r1 := (hb2.cell (p := ⟨w.heap.size, 1, none⟩) hszW).trans q1
    have r2 := (hb2.cell (p := ⟨w.heap.size, 2, none⟩) hszW).trans q2
    go_wp2_with fail
    clear r0 r1 r2
    have k1 := (hs.below hb2).more hb2.size
    have k2 := (hs'.below hb2).more hb2.size
    have hbb := hbW.trans (hb2.mono (Nat.le_of_lt hszW))
    refine (l11IsoMasks_any _ _ _ _ os D _ _ _ vs k1 k2 hok).mono ?_
    rintro e w3 ⟨v, rfl, hO, hb3⟩
    have hb2s := hb2.size
    go_wp2_with fail
    refine bodyPost_ret (v := .tuple #[v, .int .i64 0]) (by simp [results, Tryd.results19, go_sem]) rfl ?_
    exact ⟨_, by rw [hC.out], by rw [hR.out]; exact hO.less (by omega), hbW.trans ((hb2.trans (hb3.mono hb2s)).mono (Nat.le_of_lt hszW))⟩
set_option maxHeartbeats 1000000 in
theorem impl_IM_any (w : World) (A : Option Addr) (n c : Nat) (os : List Int) (D : Int) (A' : Option Addr) (n' c' : Nat) (vs : List Int) (h : Sl w w.heap.size A n c os) (h' : Sl w w.heap.size A' n' c' vs) (hn : n ≤ 1048576) (hn' : n' ≤ 1048576) (hT : Tb w) :
    Calls Tryd.prog 20 #[.agg #[.slice A n c, .int .i64 D, .slice A' n' c']] w (MkC w (ifM os D vs (isoK os vs)) (codeM os D vs)) := by
  obtain rfl := h'.len
  cases hm : isM os D vs with
  | false =>
    have hC := hide (show codeM os D vs = 1 by unfold codeM; rw [hm]; rfl)
    have hR := hide (show ifM os D vs (isoK os vs) = [] by unfold ifM; rw [hm]; rfl)
    go_enter Tryd.func20, Tryd.ntmps20
    go_wp2_with fail
    obtain ⟨W, hW⟩ : ∃ W, w.alloc (.cells #[.slice A n c, .int .i64 D, .slice A' vs.length c'] 28) = W := ⟨_, rfl⟩
    have hbW : Below w.heap.size w W := by rw [← hW]; exact (by repeat (first | assumption | exact Below.refl _ _ | apply below_drewN | apply Below.drew | apply Below.alloc | apply Below.setCell | omega | (focus (simp; done)) | (focus (simp; omega))))
    have hszW : w.heap.size < W.heap.size := by rw [← hW]; simp
    have hsW := hide (show W.heap.size = w.heap.size + 1 by rw [← hW]; simp)
    have bM : Blk W w.heap.size 28 #[.slice A n c, .int .i64 D, .slice A' vs.length c'] := by rw [← hW]; exact Blk.new _ _ _
    have q0 : W.cell? ⟨w.heap.size, 0, none⟩ = some (.slice A n c) := by rw [← hW]; exact (Blk.new _ _ _).cell 0
    have q1 : W.cell? ⟨w.heap.size, 1, none⟩ = some (.int .i64 D) := by rw [← hW]; exact (Blk.new _ _ _).cell 1
    have q2 : W.cell? ⟨w.heap.size, 2, none⟩ = some (.slice A' vs.length c') := by rw [← hW]; exact (Blk.new _ _ _).cell 2
    rw [hW]
    clear hW
    have hs := (h.below hbW).more (Nat.le_of_lt hszW)
    have hs' := (h'.below hbW).more (Nat.le_of_lt hszW)
    go_wp2_with fail
    refine (implIs_v false _ _ _ _ _ _ _ _ _ _ hs hs' hn hn' hm).mono ?_
    rintro e w2 ⟨rfl, hb2⟩
    go_wp2_with fail
    refine bodyPost_ret (v := .tuple #[.slice none 0 0, .int .i64 1]) (by simp [results, Tryd.results20, go_sem]) rfl ?_
    exact ⟨_, by rw [hC.out], by rw [hR.out]; exact Ow.nil _ _, hbW.trans (hb2.mono (Nat.le_of_lt hszW))⟩
  | true =>
    have hM := isM_iff.1 hm
    have hC := hide (show codeM os D vs = 0 by unfold codeM; rw [hm]; rfl)
    have hR := hide (show ifM os D vs (isoK os vs) = isoK os vs by unfold ifM; rw [hm]; rfl)
    have hok := hM.ok
    have hN := hok.len
    go_enter Tryd.func20, Tryd.ntmps20
    go_wp2_with fail
    obtain ⟨W, hW⟩ : ∃ W, w.alloc (.cells #[.slice A n c, .int .i64 D, .slice A' vs.length c'] 28) = W := ⟨_, rfl⟩
    have hbW : Below w.heap.size w W := by rw [← hW]; exact (by repeat (first | assumption | exact Below.refl _ _ | apply below_drewN | apply Below.drew | apply Below.alloc | apply Below.setCell | omega | (focus (simp; done)) | (focus (simp; omega))))
    have hszW : w.heap.size < W.heap.size := by rw [← hW]; simp
    have hsW := hide (show W.heap.size = w.heap.size + 1 by rw [← hW]; simp)
    have bM : Blk W w.heap.size 28 #[.slice A n c, .int .i64 D, .slice A' vs.length c'] := by rw [← hW]; exact Blk.new _ _ _
    have q0 : W.cell? ⟨w.heap.size, 0, none⟩ = some (.slice A n c) := by rw [← hW]; exact (Blk.new _ _ _).cell 0
    have q1 : W.cell? ⟨w.heap.size, 1, none⟩ = some (.int .i64 D) := by rw [← hW]; exact (Blk.new _ _ _).cell 1
    have q2 : W.cell? ⟨w.heap.size, 2, none⟩ = some (.slice A' vs.length c') := by rw [← hW]; exact (Blk.new _ _ _).cell 2
    rw [hW]
    clear hW
    have hs := (h.below hbW).more (Nat.le_of_lt hszW)
    have hs' := (h'.below hbW).more (Nat.le_of_lt hszW)
    go_wp2_with fail
    refine (implIs_v true _ _ _ _ _ _ _ _ _ _ hs hs' hn hn' hm).mono ?_
    rintro e w2 ⟨rfl, hb2⟩
    have r0 := (hb2.cell (p := ⟨w.heap.size, 0, none⟩) hszW).trans q0
    have r1 := (hb2.cell (p := ⟨w.heap.size, 1, none⟩) hszW).trans q1
    have r2 := (hb2.cell (p := ⟨w.heap.size, 2, none⟩) hszW).trans q2
    go_wp2_with fail
    clear r0 r1 r2
    have k1 := (hs.below hb2).more hb2.size
    have k2 := (hs'.below hb2).more hb2.size
    have hbb := hbW.trans (hb2.mono (Nat.le_of_lt hszW))
    refine (isotropicMasks_any _ _ _ _ os D _ _ _ vs k1 k2 hok (hT.bel hbb)).mono ?_
    rintro e w3 ⟨v, rfl, hO, hb3⟩
    have hb2s := hb2.size
    go_wp2_with fail
    refine bodyPost_ret (v := .tuple #[v, .int .i64 0]) (by simp [results, Tryd.results20, go_sem]) rfl ?_
    exact ⟨_, by rw [hC.out], by rw [hR.out]; exact hO.less (by omega), hbW.trans ((hb2.trans (hb3.mono hb2s)).mono (Nat.le_of_lt hszW))⟩
set_option maxHeartbeats 1000000 in
theorem spec_LgM_any (w : World) (A : Option Addr) (n c : Nat) (os : List Int) (D : Int) (A' : Option Addr) (n' c' : Nat) (vs : List Int) (h : Sl w w.heap.size A n c os) (h' : Sl w w.heap.size A' n' c' vs) (hn : n ≤ 1048576) (hn' : n' ≤ 1048576) :
    Calls Tryd.prog 23 #[.agg #[.slice A n c, .int .i64 D, .slice A' n' c']] w (MkC w (ifM os D vs (lagK os D vs)) (codeM os D vs)) := by
  obtain rfl := h'.len
  cases hm : isM os D vs with
  | false =>
    have hC := hide (show codeM os D vs = 1 by unfold codeM; rw [hm]; rfl)
    have hR := hide (show ifM os D vs (lagK os D vs) = [] by unfold ifM; rw [hm]; rfl)
    go_enter Tryd.func23, Tryd.ntmps23
    go_wp2_with fail
    obtain ⟨W, hW⟩ : ∃ W, w.alloc (.cells #[.slice A n c, .int .i64 D, .slice A' vs.length c'] 28) = W := ⟨_, rfl⟩
    have hbW : Below w.heap.size w W := by rw [← hW]; exact (by repeat (first | assumption | exact Below.refl _ _ | apply below_drewN | apply Below.drew | apply Below.alloc | apply Below.setCell | omega | (focus (simp; done)) | (focus (simp; omega))))
    have hszW : w.heap.size < W.heap.size := by rw [← hW]; simp
    have hsW := hide (show W.heap.size = w.heap.size + 1 by rw [← hW]; simp)
    have bM : Blk W w.heap.size 28 #[.slice A n c, .int .i64 D, .slice A' vs.length c'] := by rw [← hW]; exact Blk.new _ _ _
    have q0 : W.cell? ⟨w.heap.size, 0, none⟩ = some (.slice A n c) := by rw [← hW]; exact (Blk.new _ _ _).cell 0
    have q1 : W.cell? ⟨w.heap.size, 1, none⟩ = some (.int .i64 D) := by rw [← hW]; exact (Blk.new _ _ _).cell 1
    have q2 : W.cell? ⟨w.heap.size, 2, none⟩ = some (.slice A' vs.length c') := by rw [← hW]; exact (Blk.new _ _ _).cell 2
    rw [hW]
    clear hW
    have hs := (h.below hbW).more (Nat.le_of_lt hszW)
    have hs' := (h'.below hbW).more (Nat.le_of_lt hszW)
    go_wp2_with fail
    refine (l10Is_v false _ _ _ _ _ _ _ _ _ _ hs hs' hn hn' hm).mono ?_
    rintro e w2 ⟨rfl, hb2⟩
    go_wp2_with fail
    refine bodyPost_ret (v := .tuple #[.slice none 0 0, .int .i64 1]) (by simp [results, Tryd.results23, go_sem]) rfl ?_
    exact ⟨_, by rw [hC.out], by rw [hR.out]; exact Ow.nil _ _, hbW.trans (hb2.mono (Nat.le_of_lt hszW))⟩
  | true =>
    have hM := isM_iff.1 hm
    have hC := hide (show codeM os D vs = 0 by unfold codeM; rw [hm]; rfl)
    have hR := hide (show ifM os D vs (lagK os D vs) = lagK os D vs by unfold ifM; rw [hm]; rfl)
    have hok := hM.ok
    have hN := hok.len
    go_enter Tryd.func23, Tryd.ntmps23
    go_wp2_with fail
    obtain ⟨W, hW⟩ : ∃ W, w.alloc (.cells #[.slice A n c, .int .i64 D, .slice A' vs.length c'] 28) = W := ⟨_, rfl⟩
    have hbW : Below w.heap.size w W := by rw [← hW]; exact (by repeat (first | assumption | exact Below.refl _ _ | apply below_drewN | apply Below.drew | apply Below.alloc | apply Below.setCell | omega | (focus (simp; done)) | (focus (simp; omega))))
    have hszW : w.heap.size < W.heap.size := by rw [← hW]; simp
    have hsW := hide (show W.heap.size = w.heap.size + 1 by rw [← hW]; simp)
    have bM : Blk W w.heap.size 28 #[.slice A n c, .int .i64 D, .slice A' vs.length c'] := by rw [← hW]; exact Blk.new _ _ _
    have q0 : W.cell? ⟨w.heap.size, 0, none⟩ = some (.slice A n c) := by rw [← hW]; exact (Blk.new _ _ _).cell 0
    have q1 : W.cell? ⟨w.heap.size, 1, none⟩ = some (.int .i64 D) := by rw [← hW]; exact (Blk.new _ _ _).cell 1
    have q2 : W.cell? ⟨w.heap.size, 2, none⟩ = some (.slice A' vs.length c') := by rw [← hW]; exact (Blk.new _ _ _).cell 2
    rw [hW]
    clear hW
    have hs := (h.below hbW).more (Nat.le_of_lt hszW)
    have hs' := (h'.below hbW).more (Nat.le_of_lt hszW)
    go_wp2_with fail
    refine (l10Is_v true _ _ _ _ _ _ _ _ _ _ hs hs' hn hn' hm).mono ?_
    rintro e w2 ⟨rfl, hb2⟩
    have r0 := (hb2.cell (p := ⟨w.heap.size, 0, none⟩) hszW).trans q0
    have r1 := (hb2.cell (p := ⟨w.heap.size, 1, none⟩) hszW).trans q1
    have r2 := (hb2.cell (p := ⟨w.heap.size, 2, none⟩) hszW).trans q2
    go_wp2_with fail
    clear r0 r1 r2
    have k1 := (hs.below hb2).more hb2.size
    have k2 := (hs'.below hb2).more hb2.size
    have hbb := hbW.trans (hb2.mono (Nat.le_of_lt hszW))
    refine (l11Lag_any _ _ _ _ os D _ _ _ vs k1 k2 hok).mono ?_
    rintro e w3 ⟨v, rfl, hO, hb3⟩
    have hb2s := hb2.size
    go_wp2_with fail
    refine bodyPost_ret (v := .tuple #[v, .int .i64 0]) (by simp [results, Tryd.results23, go_sem]) rfl ?_
    exact ⟨_, by rw [hC.out], by rw [hR.out]; exact hO.less (by omega), hbW.trans ((hb2.trans (hb3.mono hb2s)).mono (Nat.le_of_lt hszW))⟩
set_option maxHeartbeats 1000000 in
theorem impl_LgM_any (w : World) (A : Option Addr) (n c : Nat) (os : List Int) (D : Int) (A' : Option Addr) (n' c' : Nat) (vs : List Int) (h : Sl w w.heap.size A n c os) (h' : Sl w w.heap.size A' n' c' vs) (hn : n ≤ 1048576) (hn' : n' ≤ 1048576) (hT : Tb w) :
    Calls Tryd.prog 24 #[.agg #[.slice A n c, .int .i64 D, .slice A' n' c']] w (MkC w (ifM os D vs (lagK os D vs)) (codeM os D vs)) := by
  obtain rfl := h'.len
  cases hm : isM os D vs with
  | false =>
    have hC := hide (show codeM os D vs = 1 by unfold codeM; rw [hm]; rfl)
    have hR := hide (show ifM os D vs (lagK os D vs) = [] by unfold ifM; rw [hm]; rfl)
    go_enter Tryd.func24, Tryd.ntmps24
    go_wp2_with fail
    obtain ⟨W, hW⟩ : ∃ W, w.alloc (.cells #[.slice A n c, .int .i64 D, .slice A' vs.length c'] 28) = W := ⟨_, rfl⟩
    have hbW : Below w.heap.size w W := by rw [← hW]; exact (by repeat (first | assumption | exact Below.refl _ _ | apply below_drewN | apply Below.drew | apply Below.alloc | apply Below.setCell | omega | (focus (simp; done)) | (focus (simp; omega))))
    have hszW : w.heap.size < W.heap.size := by rw [← hW]; simp
    have hsW := hide (show W.heap.size = w.heap.size + 1 by rw [← hW]; simp)
    have bM : Blk W w.heap.size 28 #[.slice A n c, .int .i64 D, .slice A' vs.length c'] := by rw [← hW]; exact Blk.new _ _ _
    have q0 : W.cell? ⟨w.heap.size, 0, none⟩ = some (.slice A n c) := by rw [← hW]; exact (Blk.new _ _ _).cell 0
    have q1 : W.cell? ⟨w.heap.size, 1, none⟩ = some (.int .i64 D) := by rw [← hW]; exact (Blk.new _ _ _).cell 1
    have q2 : W.cell? ⟨w.heap.size, 2, none⟩ = some (.slice A' vs.length c') := by rw [← hW]; exact (Blk.new _ _ _).cell 2
    rw [hW]
    clear hW
    have hs := (h.below hbW).more (Nat.le_of_lt hszW)
    have hs' := (h'.below hbW).more (Nat.le_of_lt hszW)
    go_wp2_with fail
    refine (implIs_v false _ _ _ _ _ _ _ _ _ _ hs hs' hn hn' hm).mono ?_
    rintro e w2 ⟨rfl, hb2⟩
    go_wp2_with fail
    refine bodyPost_ret (v := .tuple #[.slice none 0 0, .int .i64 1]) (by simp [results, Tryd.results24, go_sem]) rfl ?_
    exact ⟨_, by rw [hC.out], by rw [hR.out]; exact Ow.nil _ _, hbW.trans (hb2.mono (Nat.le_of_lt hszW))⟩
  | true =>
    have hM := isM_iff.1 hm
    have hC := hide (show codeM os D vs = 0 by unfold codeM; rw [hm]; rfl)
    have hR := hide (show ifM os D vs (lagK os D vs) = lagK os D vs by unfold ifM; rw [hm]; rfl)
    have hok := hM.ok
    have hN := hok.len
    go_enter Tryd.func24, Tryd.ntmps24
    go_wp2_with fail
    obtain ⟨W, hW⟩ : ∃ W, w.alloc (.cells #[.slice A n c, .int .i64 D, .slice A' vs.length c'] 28) = W := ⟨_, rfl⟩
    have hbW : Below w.heap.size w W := by rw [← hW]; exact (by repeat (first | assumption | exact Below.refl _ _ | apply below_drewN | apply Below.drew | apply Below.alloc | apply Below.setCell | omega | (focus (simp; done)) | (focus (simp; omega))))
    have hszW : w.heap.size < W.heap.size := by rw [← hW]; simp
    have hsW := hide (show W.heap.size = w.heap.size + 1 by rw [← hW]; simp)
    have bM : Blk W w.heap.size 28 #[.slice A n c, .int .i64 D, .slice A' vs.length c'] := by rw [← hW]; exact Blk.new _ _ _
    have q0 : W.cell? ⟨w.heap.size, 0, none⟩ = some (.slice A n c) := by rw [← hW]; exact (Blk.new _ _ _).cell 0
    have q1 : W.cell? ⟨w.heap.size, 1, none⟩ = some (.int .i64 D) := by rw [← hW]; exact (Blk.new _ _ _).cell 1
    have q2 : W.cell? ⟨w.heap.size, 2, none⟩ = some (.slice A' vs.length c') := by rw [← hW]; exact (Blk.new _ _ _).cell 2
    rw [hW]
    clear hW
    have hs := (h.below hbW).more (Nat.le_of_lt hszW)
    have hs' := (h'.below hbW).more (Nat.le_of_lt hszW)
    go_wp2_with fail
    refine (implIs_v true _ _ _ _ _ _ _ _ _ _ hs hs' hn hn' hm).mono ?_
    rintro e w2 ⟨rfl, hb2⟩
    have r0 := (hb2.cell (p := ⟨w.heap.size, 0, none⟩) hszW).trans q0
    have r1 := (hb2.cell (p := ⟨w.heap.size, 1, none⟩) hszW).trans q1
    have r2 := (hb2.cell (p := ⟨w.heap.size, 2, none⟩) hszW).trans q2
    go_wp2_with fail
    clear r0 r1 r2
    have k1 := (hs.below hb2).more hb2.size
    have k2 := (hs'.below hb2).more hb2.size
    have hbb := hbW.trans (hb2.mono (Nat.le_of_lt hszW))
    refine (lagrangianMasks_any _ _ _ _ os D _ _ _ vs k1 k2 hok (hT.bel hbb)).mono ?_
    rintro e w3 ⟨v, rfl, hO, hb3⟩
    have hb2s := hb2.size
    go_wp2_with fail
    refine bodyPost_ret (v := .tuple #[v, .int .i64 0]) (by simp [results, Tryd.results24, go_sem]) rfl ?_
    exact ⟨_, by rw [hC.out], by rw [hR.out]; exact hO.less (by omega), hbW.trans ((hb2.trans (hb3.mono hb2s)).mono (Nat.le_of_lt hszW))⟩
end Go.Proofs.YtlekbkjkkoefnaaDoor
