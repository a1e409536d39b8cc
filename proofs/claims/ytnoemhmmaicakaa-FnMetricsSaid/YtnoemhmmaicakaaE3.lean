
/- The walks of OrderOfElement, of both sides. -/
import Derived.Test.YtnoemhmmaicakaaPe
import Derived.Test.YtnoemhmmaicakaaO1
import Derived.WalkLawsBesides
namespace Go.Proofs.Ytnoemhmmaicakaa
open Go Go.RowKit Grp
set_option linter.unusedSimpArgs false
set_option linter.unusedVariables false
set_option maxHeartbeats 1000000 in
theorem impl_Ord_any (w : World) (A : Option Addr) (n c : Nat) (os : List Int) (D : Int) (A' : Option Addr) (n' c' : Nat) (vs : List Int) (x : Int) (hx : i64ok x) (h : Sl w w.heap.size A n c os) (h' : Sl w w.heap.size A' n' c' vs) (hn : n ≤ 1048576) (hn' : n' ≤ 1048576) :
    Calls Try.prog 21 #[.agg #[.slice A n c, .int .i64 D, .slice A' n' c'], .int .i64 x] w (Re2 w (if codeE os D vs [x] = 0 then ((ordN os x : Nat) : Int) else 0) (codeE os D vs [x])) := by
  obtain rfl := h'.len
  have hcode := fun W A n c A' n' c' LL l lc => elementCode_any W A n c os D A' n' c' vs LL l lc [x]
  obtain ⟨k, hk⟩ : ∃ k, codeE os D vs [x] = k := ⟨_, rfl⟩
  have h0 : k = 0 → IsM os D vs ∧ allIn 0 (prodL os - 1) [x] = true := fun e => codeE_0 (hk.trans e)
  rw [hk] at hcode ⊢
  clear hk
  by_cases hk0 : k = 0
  · subst hk0
    obtain ⟨hM, hin⟩ := h0 rfl
    clear h0
    rw [if_pos rfl]
    have hG := hM.ok.g
    have hp16 := hG.p16
    have hxr : 0 ≤ x ∧ x ≤ prodL os - 1 := allIn_gi hin (k := 0) (by simp)
    have hin' := hide hin
    clear hin
    go_enter Try.func21, Try.ntmps21
    go_wp2_with fail
    obtain ⟨W, hW⟩ : ∃ W, w.alloc (.cells #[.slice A n c, .int .i64 D, .slice A' vs.length c'] 26) = W := ⟨_, rfl⟩
    have hbW : Below w.heap.size w W := by rw [← hW]; exact (by repeat (first | assumption | exact Below.refl _ _ | apply below_drewN | apply Below.drew | apply Below.alloc | apply Below.setCell | omega | (focus (simp; done)) | (focus (simp; omega))))
    have hszW : w.heap.size < W.heap.size := by rw [← hW]; simp
    have hsW := hide (show W.heap.size = w.heap.size + 1 by rw [← hW]; simp)
    have bM : Blk W w.heap.size 26 #[.slice A n c, .int .i64 D, .slice A' vs.length c'] := by rw [← hW]; exact Blk.new _ _ _
    have q0 : W.cell? ⟨w.heap.size, 0, none⟩ = some (.slice A n c) := by rw [← hW]; exact (Blk.new _ _ _).cell 0
    have q1 : W.cell? ⟨w.heap.size, 1, none⟩ = some (.int .i64 D) := by rw [← hW]; exact (Blk.new _ _ _).cell 1
    have q2 : W.cell? ⟨w.heap.size, 2, none⟩ = some (.slice A' vs.length c') := by rw [← hW]; exact (Blk.new _ _ _).cell 2
    rw [hW]
    clear hW
    have hs := (h.below hbW).more (Nat.le_of_lt hszW)
    have hs' := (h'.below hbW).more (Nat.le_of_lt hszW)
    have hsl : ∀ wd, Below W.heap.size W wd → Sl wd wd.heap.size A n c os := fun wd h => (hs.below h).more h.size
    have hsv : ∀ wd, Below W.heap.size W wd → Sl wd wd.heap.size A' vs.length c' vs := fun wd h => (hs'.below h).more h.size
    refine (hcode _ _ _ _ _ _ _ _ _ _ (hsl _ ((Below.refl _ _).alloc (Nat.le_refl _) _)) (hsv _ ((Below.refl _ _).alloc (Nat.le_refl _) _)) (sl_one _ _ hsW.out _ hx) hn hn' (by omega)).mono ?_
    rintro e w2 ⟨rfl, hb2⟩
    have k2 := ((Below.refl W.heap.size W).alloc (Nat.le_refl _) _).trans (hb2.mono (by simp))
    have r0 := (k2.cell (p := ⟨w.heap.size, 0, none⟩) hszW).trans q0
    have r1 := (k2.cell (p := ⟨w.heap.size, 1, none⟩) hszW).trans q1
    have r2 := (k2.cell (p := ⟨w.heap.size, 2, none⟩) hszW).trans q2
    go_wp2_with fail
    refine (orderOf_any _ _ _ _ _ _ _ _ _ _ (hsl _ k2) hG (by omega) (by omega)).mono ?_
    rintro e w3 ⟨rfl, hb3⟩
    have k3 := k2.trans (hb3.mono k2.size)
    go_wp2
    refine bodyPost_ret (v := .tuple #[.int .i64 ((ordN os x : Nat) : Int), .int .i64 0]) (by simp [results, Try.results21, go_sem]) rfl ?_
    exact ⟨rfl, hbW.trans (k3.mono (Nat.le_of_lt hszW))⟩
  · clear h0
    rw [if_neg hk0]
    have hkb : (k != 0) = true := by simpa using hk0
    go_enter Try.func21, Try.ntmps21
    go_wp2_with fail
    obtain ⟨W, hW⟩ : ∃ W, w.alloc (.cells #[.slice A n c, .int .i64 D, .slice A' vs.length c'] 26) = W := ⟨_, rfl⟩
    have hbW : Below w.heap.size w W := by rw [← hW]; exact (by repeat (first | assumption | exact Below.refl _ _ | apply below_drewN | apply Below.drew | apply Below.alloc | apply Below.setCell | omega | (focus (simp; done)) | (focus (simp; omega))))
    have hszW : w.heap.size < W.heap.size := by rw [← hW]; simp
    have hsW := hide (show W.heap.size = w.heap.size + 1 by rw [← hW]; simp)
    have bM : Blk W w.heap.size 26 #[.slice A n c, .int .i64 D, .slice A' vs.length c'] := by rw [← hW]; exact Blk.new _ _ _
    have q0 : W.cell? ⟨w.heap.size, 0, none⟩ = some (.slice A n c) := by rw [← hW]; exact (Blk.new _ _ _).cell 0
    have q1 : W.cell? ⟨w.heap.size, 1, none⟩ = some (.int .i64 D) := by rw [← hW]; exact (Blk.new _ _ _).cell 1
    have q2 : W.cell? ⟨w.heap.size, 2, none⟩ = some (.slice A' vs.length c') := by rw [← hW]; exact (Blk.new _ _ _).cell 2
    rw [hW]
    clear hW
    have hs := (h.below hbW).more (Nat.le_of_lt hszW)
    have hs' := (h'.below hbW).more (Nat.le_of_lt hszW)
    have hsl : ∀ wd, Below W.heap.size W wd → Sl wd wd.heap.size A n c os := fun wd h => (hs.below h).more h.size
    have hsv : ∀ wd, Below W.heap.size W wd → Sl wd wd.heap.size A' vs.length c' vs := fun wd h => (hs'.below h).more h.size
    refine (hcode _ _ _ _ _ _ _ _ _ _ (hsl _ ((Below.refl _ _).alloc (Nat.le_refl _) _)) (hsv _ ((Below.refl _ _).alloc (Nat.le_refl _) _)) (sl_one _ _ hsW.out _ hx) hn hn' (by omega)).mono ?_
    rintro e w2 ⟨rfl, hb2⟩
    have k2 := ((Below.refl W.heap.size W).alloc (Nat.le_refl _) _).trans (hb2.mono (by simp))
    go_wp2_with fail
    refine bodyPost_ret (v := .tuple #[.int .i64 0, .int .i64 k]) (by simp [results, Try.results21, go_sem]) rfl ?_
    exact ⟨rfl, hbW.trans (k2.mono (Nat.le_of_lt hszW))⟩
end Go.Proofs.Ytnoemhmmaicakaa
