
/- The walks of ElementValue, MetricGauss of both sides. The walks of AddElements, NegateElement, PairElements, of both sides. -/
import Derived.Test.YtnoemhmmaicakaaP1a
import Derived.Test.YtnoemhmmaicakaaEa
import Derived.WalkLawsBesides
namespace Go.Proofs.Ytnoemhmmaicakaa
open Go Go.RowKit Grp
set_option linter.unusedSimpArgs false
set_option linter.unusedVariables false
theorem rp_at {D v : Nat} (h : v < D) : rp D v = pwr (rtu D) v := by
  unfold rp; rw [Int.emod_eq_of_lt (by omega) (by omega)]; rfl

set_option maxHeartbeats 1000000 in
theorem impl_Val_any (w : World) (A : Option Addr) (n c : Nat) (os : List Int) (D : Int) (A' : Option Addr) (n' c' : Nat) (vs : List Int) (x : Int) (hx : i64ok x) (h : Sl w w.heap.size A n c os) (h' : Sl w w.heap.size A' n' c' vs) (hn : n ≤ 1048576) (hn' : n' ≤ 1048576) :
    Calls Try.prog 19 #[.agg #[.slice A n c, .int .i64 D, .slice A' n' c'], .int .i64 x] w (Re2 w (if codeE os D vs [x] = 0 then (rp D.toNat (Vl vs x) : Int) else 0) (codeE os D vs [x])) := by
  obtain rfl := h'.len
  have hcode := fun W A n c A' n' c' LL l lc => elementCode_any W A n c os D A' n' c' vs LL l lc [x]
  obtain ⟨k, hk⟩ : ∃ k, codeE os D vs [x] = k := ⟨_, rfl⟩
  have h0 : k = 0 → IsM os D vs ∧ allIn 0 (prodL os - 1) [x] = true := fun e => codeE_0 (hk.trans e)
  rw [hk] at hcode ⊢
  clear hk
  by_cases hk0 : k = 0
  · subst hk0
    obtain ⟨hM, hin⟩ := h0 rfl
    clear h0
    rw [if_pos rfl]
    have hG := hM.ok.g
    have hp16 := hG.p16
    have hxr : 0 ≤ x ∧ x ≤ prodL os - 1 := allIn_gi hin (k := 0) (by simp)
    have hin' := hide hin
    clear hin
    obtain ⟨x, rfl⟩ : ∃ m : Nat, x = (m : Int) := ⟨x.toNat, by omega⟩
    have hd1 := hM.ok.d1
    have hd2 := hM.ok.d2
    obtain ⟨D, rfl⟩ : ∃ m : Nat, D = (m : Int) := ⟨D.toNat, by omega⟩
    obtain ⟨lx, vx0, vx1⟩ := hM.ok.vl (k := x) (by omega)
    obtain ⟨v, ev⟩ : ∃ v : Nat, gi vs x = (v : Int) := ⟨(gi vs x).toNat, by omega⟩
    have hR := hide (show rp (D : Int).toNat (Vl vs x) = rp D v by unfold Vl; rw [show ((x : Nat) : Int).toNat = x from rfl, ev]; rfl)
    obtain ⟨b, off, rfl, hb, hc⟩ := h'.at_ (by omega)
    have c1 := hc x lx
    rw [ev] at c1 vx0 vx1
    have hRP := hide (rp_at (D := D) (v := v) (by omega))
    clear ev hc
    go_enter Try.func19, Try.ntmps19
    go_wp2_with fail
    obtain ⟨W, hW⟩ : ∃ W, w.alloc (.cells #[.slice A n c, .int .i64 D, .slice (some ⟨b, off, none⟩) vs.length c'] 26) = W := ⟨_, rfl⟩
    have hbW : Below w.heap.size w W := by rw [← hW]; exact (by repeat (first | assumption | exact Below.refl _ _ | apply below_drewN | apply Below.drew | apply Below.alloc | apply Below.setCell | omega | (focus (simp; done)) | (focus (simp; omega))))
    have hszW : w.heap.size < W.heap.size := by rw [← hW]; simp
    have hsW := hide (show W.heap.size = w.heap.size + 1 by rw [← hW]; simp)
    have bM : Blk W w.heap.size 26 #[.slice A n c, .int .i64 D, .slice (some ⟨b, off, none⟩) vs.length c'] := by rw [← hW]; exact Blk.new _ _ _
    have q0 : W.cell? ⟨w.heap.size, 0, none⟩ = some (.slice A n c) := by rw [← hW]; exact (Blk.new _ _ _).cell 0
    have q1 : W.cell? ⟨w.heap.size, 1, none⟩ = some (.int .i64 D) := by rw [← hW]; exact (Blk.new _ _ _).cell 1
    have q2 : W.cell? ⟨w.heap.size, 2, none⟩ = some (.slice (some ⟨b, off, none⟩) vs.length c') := by rw [← hW]; exact (Blk.new _ _ _).cell 2
    rw [hW]
    clear hW
    have hs := (h.below hbW).more (Nat.le_of_lt hszW)
    have hs' := (h'.below hbW).more (Nat.le_of_lt hszW)
    have hsl : ∀ wd, Below W.heap.size W wd → Sl wd wd.heap.size A n c os := fun wd h => (hs.below h).more h.size
    have hsv : ∀ wd, Below W.heap.size W wd → Sl wd wd.heap.size (some ⟨b, off, none⟩) vs.length c' vs := fun wd h => (hs'.below h).more h.size
    have hbG : b < W.heap.size := by omega
    have c1 := (hbW.cell (p := ⟨b, off + x, none⟩) hb).trans c1
    refine (hcode _ _ _ _ _ _ _ _ _ _ (hsl _ ((Below.refl _ _).alloc (Nat.le_refl _) _)) (hsv _ ((Below.refl _ _).alloc (Nat.le_refl _) _)) (sl_one _ _ hsW.out _ hx) hn hn' (by omega)).mono ?_
    rintro e w2 ⟨rfl, hb2⟩
    have k2 := ((Below.refl W.heap.size W).alloc (Nat.le_refl _) _).trans (hb2.mono (by simp))
    go_wp2_with fail
    refine wp_region_be [0, 1, 2, 3, 4, 5, 6, 7, 8] 7 W.heap.size W (by kernel_rfl) (by kernel_rfl) (by kernel_rfl) (fun _ _ _ _ _ h => h) k2 (fun wd hBe => ?_)
    repeat (first | (apply ord_tk rfl (by rfl) (by rfl) (by rfl); (focus (intro wx hSw; have r0 := (hSw.cell (p := ⟨w.heap.size, 0, none⟩) hszW).trans q0; have r1 := (hSw.cell (p := ⟨w.heap.size, 1, none⟩) hszW).trans q1; have r2 := (hSw.cell (p := ⟨w.heap.size, 2, none⟩) hszW).trans q2; have r3 := (hSw.cell (p := ⟨b, off + x, none⟩) hbG).trans c1; go_simp; (try with_reducible rfl))); (try simp only [Act.put, List.setIfInBounds_toArray, List.set_cons_zero, List.set_cons_succ])) | (apply ord_skip rfl (by rfl) (by rfl) (fun _ => hBe); (try simp only [Act.put, List.setIfInBounds_toArray, List.set_cons_zero, List.set_cons_succ])))
    refine ord_do rfl (by rfl) (by rfl) (fun K hK => ?_)
    go_simp
    refine (rootPower_any _ _ _ _ _ _ _ _ _ (by omega) (by omega)).mono ?_
    rintro e wd' ⟨rfl, hwd⟩
    replace hBe := hBe.trans (hwd.mono hBe.size)
    clear hwd
    refine hK.out _ _ (fun _ => hBe) ?_
    (try simp only [Act.put, List.setIfInBounds_toArray, List.set_cons_zero, List.set_cons_succ])
    clear hK K
    repeat (first | (apply ord_tk rfl (by rfl) (by rfl) (by rfl); (focus (intro wx hSw; have r0 := (hSw.cell (p := ⟨w.heap.size, 0, none⟩) hszW).trans q0; have r1 := (hSw.cell (p := ⟨w.heap.size, 1, none⟩) hszW).trans q1; have r2 := (hSw.cell (p := ⟨w.heap.size, 2, none⟩) hszW).trans q2; have r3 := (hSw.cell (p := ⟨b, off + x, none⟩) hbG).trans c1; go_simp; (try with_reducible rfl))); (try simp only [Act.put, List.setIfInBounds_toArray, List.set_cons_zero, List.set_cons_succ])) | (apply ord_skip rfl (by rfl) (by rfl) (fun _ => hBe); (try simp only [Act.put, List.setIfInBounds_toArray, List.set_cons_zero, List.set_cons_succ])))
    refine ord_do rfl (by rfl) (by rfl) (fun K hK => ?_)
    go_simp
    refine hK.out _ _ (fun h => absurd h (by omega)) ?_
    (try simp only [Act.put, List.setIfInBounds_toArray, List.set_cons_zero, List.set_cons_succ])
    clear hK K
    refine ord_do rfl (by rfl) (by rfl) (fun K hK => ?_)
    go_simp
    refine hK.out _ _ (fun h => absurd h (by omega)) ?_
    (try simp only [Act.put, List.setIfInBounds_toArray, List.set_cons_zero, List.set_cons_succ])
    clear hK K
    refine ord_nil ?_
    go_wp2
    refine bodyPost_ret (v := .tuple #[.int .i64 (rp (D : Int).toNat (Vl vs x) : Int), .int .i64 0]) (by rw [hR.out]; simp [results, Try.results19, go_sem]) rfl ?_
    exact ⟨rfl, hbW.trans (hBe.mono (Nat.le_of_lt hszW))⟩
  · clear h0
    rw [if_neg hk0]
    have hkb : (k != 0) = true := by simpa using hk0
    go_enter Try.func19, Try.ntmps19
    go_wp2_with fail
    obtain ⟨W, hW⟩ : ∃ W, w.alloc (.cells #[.slice A n c, .int .i64 D, .slice A' vs.length c'] 26) = W := ⟨_, rfl⟩
    have hbW : Below w.heap.size w W := by rw [← hW]; exact (by repeat (first | assumption | exact Below.refl _ _ | apply below_drewN | apply Below.drew | apply Below.alloc | apply Below.setCell | omega | (focus (simp; done)) | (focus (simp; omega))))
    have hszW : w.heap.size < W.heap.size := by rw [← hW]; simp
    have hsW := hide (show W.heap.size = w.heap.size + 1 by rw [← hW]; simp)
    have bM : Blk W w.heap.size 26 #[.slice A n c, .int .i64 D, .slice A' vs.length c'] := by rw [← hW]; exact Blk.new _ _ _
    have q0 : W.cell? ⟨w.heap.size, 0, none⟩ = some (.slice A n c) := by rw [← hW]; exact (Blk.new _ _ _).cell 0
    have q1 : W.cell? ⟨w.heap.size, 1, none⟩ = some (.int .i64 D) := by rw [← hW]; exact (Blk.new _ _ _).cell 1
    have q2 : W.cell? ⟨w.heap.size, 2, none⟩ = some (.slice A' vs.length c') := by rw [← hW]; exact (Blk.new _ _ _).cell 2
    rw [hW]
    clear hW
    have hs := (h.below hbW).more (Nat.le_of_lt hszW)
    have hs' := (h'.below hbW).more (Nat.le_of_lt hszW)
    have hsl : ∀ wd, Below W.heap.size W wd → Sl wd wd.heap.size A n c os := fun wd h => (hs.below h).more h.size
    have hsv : ∀ wd, Below W.heap.size W wd → Sl wd wd.heap.size A' vs.length c' vs := fun wd h => (hs'.below h).more h.size
    refine (hcode _ _ _ _ _ _ _ _ _ _ (hsl _ ((Below.refl _ _).alloc (Nat.le_refl _) _)) (hsv _ ((Below.refl _ _).alloc (Nat.le_refl _) _)) (sl_one _ _ hsW.out _ hx) hn hn' (by omega)).mono ?_
    rintro e w2 ⟨rfl, hb2⟩
    have k2 := ((Below.refl W.heap.size W).alloc (Nat.le_refl _) _).trans (hb2.mono (by simp))
    go_wp2_with fail
    refine bodyPost_ret (v := .tuple #[.int .i64 0, .int .i64 k]) (by simp [results, Try.results19, go_sem]) rfl ?_
    exact ⟨rfl, hbW.trans (k2.mono (Nat.le_of_lt hszW))⟩

noncomputable def codeG (os : List Int) (D : Int) (vs : List Int) (k : Int) : Int := if isM os D vs = true then if inB k (-100000) 100000 = true then 0 else 2 else 1
noncomputable def gaG (os : List Int) (D : Int) (vs : List Int) (k : Int) : Int := if codeG os D vs k = 0 then ((gsum D.toNat k vs % 55441 : Nat) : Int) else 0
set_option maxHeartbeats 1000000 in
theorem spec_Gauss_any (w : World) (A : Option Addr) (n c : Nat) (os : List Int) (D : Int) (A' : Option Addr) (n' c' : Nat) (vs : List Int) (k : Int) (h : Sl w w.heap.size A n c os) (h' : Sl w w.heap.size A' n' c' vs) (hn : n ≤ 1048576) (hn' : n' ≤ 1048576) :
    Calls Try.prog 26 #[.agg #[.slice A n c, .int .i64 D, .slice A' n' c'], .int .i64 k] w (Re2 w (gaG os D vs k) (codeG os D vs k)) := by
  obtain rfl := h'.len
  cases hm : isM os D vs with
  | false =>
    have hC := hide (show codeG os D vs k = 1 by unfold codeG; rw [hm]; rfl)
    have hGA := hide (show gaG os D vs k = 0 by unfold gaG; rw [if_neg (by rw [hC.out]; decide)])
    go_enter Try.func26, Try.ntmps26
    go_wp2_with fail
    obtain ⟨W, hW⟩ : ∃ W, w.alloc (.cells #[.slice A n c, .int .i64 D, .slice A' vs.length c'] 26) = W := ⟨_, rfl⟩
    have hbW : Below w.heap.size w W := by rw [← hW]; exact (by repeat (first | assumption | exact Below.refl _ _ | apply below_drewN | apply Below.drew | apply Below.alloc | apply Below.setCell | omega | (focus (simp; done)) | (focus (simp; omega))))
    have hszW : w.heap.size < W.heap.size := by rw [← hW]; simp
    have hsW := hide (show W.heap.size = w.heap.size + 1 by rw [← hW]; simp)
    have bM : Blk W w.heap.size 26 #[.slice A n c, .int .i64 D, .slice A' vs.length c'] := by rw [← hW]; exact Blk.new _ _ _
    have q0 : W.cell? ⟨w.heap.size, 0, none⟩ = some (.slice A n c) := by rw [← hW]; exact (Blk.new _ _ _).cell 0
    have q1 : W.cell? ⟨w.heap.size, 1, none⟩ = some (.int .i64 D) := by rw [← hW]; exact (Blk.new _ _ _).cell 1
    have q2 : W.cell? ⟨w.heap.size, 2, none⟩ = some (.slice A' vs.length c') := by rw [← hW]; exact (Blk.new _ _ _).cell 2
    rw [hW]
    clear hW
    have hs := (h.below hbW).more (Nat.le_of_lt hszW)
    have hs' := (h'.below hbW).more (Nat.le_of_lt hszW)
    go_wp2_with fail
    refine (l10Is_v false _ _ _ _ _ _ _ _ _ _ hs hs' hn hn' hm).mono ?_
    rintro e w2 ⟨rfl, hb2⟩
    go_wp2_with fail
    refine bodyPost_ret (v := .tuple #[.int .i64 0, .int .i64 1]) (by simp [results, Try.results26, go_sem]) rfl ?_
    exact ⟨by rw [hC.out, hGA.out], hbW.trans (hb2.mono (Nat.le_of_lt hszW))⟩
  | true =>
    have hM := isM_iff.1 hm
    cases hi : inB k (-100000) 100000 with
    | false =>
      have hC := hide (show codeG os D vs k = 2 by unfold codeG; rw [hm, hi]; rfl)
      have hGA := hide (show gaG os D vs k = 0 by unfold gaG; rw [if_neg (by rw [hC.out]; decide)])
      go_enter Try.func26, Try.ntmps26
      go_wp2_with fail
      obtain ⟨W, hW⟩ : ∃ W, w.alloc (.cells #[.slice A n c, .int .i64 D, .slice A' vs.length c'] 26) = W := ⟨_, rfl⟩
      have hbW : Below w.heap.size w W := by rw [← hW]; exact (by repeat (first | assumption | exact Below.refl _ _ | apply below_drewN | apply Below.drew | apply Below.alloc | apply Below.setCell | omega | (focus (simp; done)) | (focus (simp; omega))))
      have hszW : w.heap.size < W.heap.size := by rw [← hW]; simp
      have hsW := hide (show W.heap.size = w.heap.size + 1 by rw [← hW]; simp)
      have bM : Blk W w.heap.size 26 #[.slice A n c, .int .i64 D, .slice A' vs.length c'] := by rw [← hW]; exact Blk.new _ _ _
      have q0 : W.cell? ⟨w.heap.size, 0, none⟩ = some (.slice A n c) := by rw [← hW]; exact (Blk.new _ _ _).cell 0
      have q1 : W.cell? ⟨w.heap.size, 1, none⟩ = some (.int .i64 D) := by rw [← hW]; exact (Blk.new _ _ _).cell 1
      have q2 : W.cell? ⟨w.heap.size, 2, none⟩ = some (.slice A' vs.length c') := by rw [← hW]; exact (Blk.new _ _ _).cell 2
      rw [hW]
      clear hW
      have hs := (h.below hbW).more (Nat.le_of_lt hszW)
      have hs' := (h'.below hbW).more (Nat.le_of_lt hszW)
      go_wp2_with fail
      refine (l10Is_v true _ _ _ _ _ _ _ _ _ _ hs hs' hn hn' hm).mono ?_
      rintro e w2 ⟨rfl, hb2⟩
      go_wp2_with fail
      refine (l01In_v false _ _ _ _ hi).mono ?_
      rintro e w3 ⟨rfl, dm, rfl⟩
      go_wp2_with fail
      refine bodyPost_ret (v := .tuple #[.int .i64 0, .int .i64 2]) (by simp [results, Try.results26, go_sem]) rfl ?_
      exact ⟨by rw [hC.out, hGA.out], below_drewN (hbW.trans (hb2.mono (Nat.le_of_lt hszW))) _⟩
    | true =>
      have hC := hide (show codeG os D vs k = 0 by unfold codeG; rw [hm, hi]; rfl)
      have hGA := hide (show gaG os D vs k = ((gsum D.toNat k vs % 55441 : Nat) : Int) by unfold gaG; rw [if_pos hC.out])
      have hk01 : -100000 ≤ k ∧ k ≤ 100000 := by simpa [inB] using hi
      have hd1 := hM.ok.d1
      have hd2 := hM.ok.d2
      have hrg := hide hM.ok.rng
      obtain ⟨D, rfl⟩ : ∃ m : Nat, D = (m : Int) := ⟨D.toNat, by omega⟩
      obtain ⟨g, hg⟩ : ∃ g, gsum D k vs % 55441 = g := ⟨_, rfl⟩
      rw [show (D : Int).toNat = D from rfl, hg] at hGA
      go_enter Try.func26, Try.ntmps26
      go_wp2_with fail
      obtain ⟨W, hW⟩ : ∃ W, w.alloc (.cells #[.slice A n c, .int .i64 D, .slice A' vs.length c'] 26) = W := ⟨_, rfl⟩
      have hbW : Below w.heap.size w W := by rw [← hW]; exact (by repeat (first | assumption | exact Below.refl _ _ | apply below_drewN | apply Below.drew | apply Below.alloc | apply Below.setCell | omega | (focus (simp; done)) | (focus (simp; omega))))
      have hszW : w.heap.size < W.heap.size := by rw [← hW]; simp
      have hsW := hide (show W.heap.size = w.heap.size + 1 by rw [← hW]; simp)
      have bM : Blk W w.heap.size 26 #[.slice A n c, .int .i64 D, .slice A' vs.length c'] := by rw [← hW]; exact Blk.new _ _ _
      have q0 : W.cell? ⟨w.heap.size, 0, none⟩ = some (.slice A n c) := by rw [← hW]; exact (Blk.new _ _ _).cell 0
      have q1 : W.cell? ⟨w.heap.size, 1, none⟩ = some (.int .i64 D) := by rw [← hW]; exact (Blk.new _ _ _).cell 1
      have q2 : W.cell? ⟨w.heap.size, 2, none⟩ = some (.slice A' vs.length c') := by rw [← hW]; exact (Blk.new _ _ _).cell 2
      rw [hW]
      clear hW
      have hs := (h.below hbW).more (Nat.le_of_lt hszW)
      have hs' := (h'.below hbW).more (Nat.le_of_lt hszW)
      go_wp2_with fail
      refine (l10Is_v true _ _ _ _ _ _ _ _ _ _ hs hs' hn hn' hm).mono ?_
      rintro e w2 ⟨rfl, hb2⟩
      go_wp2_with fail
      refine (l01In_v true _ _ _ _ hi).mono ?_
      rintro e w3 ⟨rfl, dm, rfl⟩
      have k3 : Below W.heap.size W (w2.drewN dm) := below_drewN hb2 _
      have r0 := (k3.cell (p := ⟨w.heap.size, 0, none⟩) hszW).trans q0
      have r1 := (k3.cell (p := ⟨w.heap.size, 1, none⟩) hszW).trans q1
      have r2 := (k3.cell (p := ⟨w.heap.size, 2, none⟩) hszW).trans q2
      go_wp2_with fail
      clear r0 r1 r2
      refine (l10Gauss_any _ _ _ _ _ _ _ _ (by omega) (by omega) ((hs'.below k3).more k3.size) (Nat.le_refl _) (by omega) hrg.out).mono ?_
      rw [hg]
      rintro e w4 ⟨rfl, hb4⟩
      have k4 := k3.trans (hb4.mono k3.size)
      go_wp2_with fail
      refine bodyPost_ret (v := .tuple #[.int .i64 g, .int .i64 0]) (by simp [results, Try.results26, go_sem]) rfl ?_
      exact ⟨by rw [hC.out, hGA.out], hbW.trans (k4.mono (Nat.le_of_lt hszW))⟩
set_option maxHeartbeats 1000000 in
theorem impl_Gauss_any (w : World) (A : Option Addr) (n c : Nat) (os : List Int) (D : Int) (A' : Option Addr) (n' c' : Nat) (vs : List Int) (k : Int) (h : Sl w w.heap.size A n c os) (h' : Sl w w.heap.size A' n' c' vs) (hn : n ≤ 1048576) (hn' : n' ≤ 1048576) :
    Calls Try.prog 25 #[.agg #[.slice A n c, .int .i64 D, .slice A' n' c'], .int .i64 k] w (Re2 w (gaG os D vs k) (codeG os D vs k)) := by
  obtain rfl := h'.len
  cases hm : isM os D vs with
  | false =>
    have hC := hide (show codeG os D vs k = 1 by unfold codeG; rw [hm]; rfl)
    have hGA := hide (show gaG os D vs k = 0 by unfold gaG; rw [if_neg (by rw [hC.out]; decide)])
    go_enter Try.func25, Try.ntmps25
    go_wp2_with fail
    obtain ⟨W, hW⟩ : ∃ W, w.alloc (.cells #[.slice A n c, .int .i64 D, .slice A' vs.length c'] 26) = W := ⟨_, rfl⟩
    have hbW : Below w.heap.size w W := by rw [← hW]; exact (by repeat (first | assumption | exact Below.refl _ _ | apply below_drewN | apply Below.drew | apply Below.alloc | apply Below.setCell | omega | (focus (simp; done)) | (focus (simp; omega))))
    have hszW : w.heap.size < W.heap.size := by rw [← hW]; simp
    have hsW := hide (show W.heap.size = w.heap.size + 1 by rw [← hW]; simp)
    have bM : Blk W w.heap.size 26 #[.slice A n c, .int .i64 D, .slice A' vs.length c'] := by rw [← hW]; exact Blk.new _ _ _
    have q0 : W.cell? ⟨w.heap.size, 0, none⟩ = some (.slice A n c) := by rw [← hW]; exact (Blk.new _ _ _).cell 0
    have q1 : W.cell? ⟨w.heap.size, 1, none⟩ = some (.int .i64 D) := by rw [← hW]; exact (Blk.new _ _ _).cell 1
    have q2 : W.cell? ⟨w.heap.size, 2, none⟩ = some (.slice A' vs.length c') := by rw [← hW]; exact (Blk.new _ _ _).cell 2
    rw [hW]
    clear hW
    have hs := (h.below hbW).more (Nat.le_of_lt hszW)
    have hs' := (h'.below hbW).more (Nat.le_of_lt hszW)
    go_wp2_with fail
    refine (implIs_v false _ _ _ _ _ _ _ _ _ _ hs hs' hn hn' hm).mono ?_
    rintro e w2 ⟨rfl, hb2⟩
    go_wp2_with fail
    refine bodyPost_ret (v := .tuple #[.int .i64 0, .int .i64 1]) (by simp [results, Try.results25, go_sem]) rfl ?_
    exact ⟨by rw [hC.out, hGA.out], hbW.trans (hb2.mono (Nat.le_of_lt hszW))⟩
  | true =>
    have hM := isM_iff.1 hm
    cases hi : inB k (-100000) 100000 with
    | false =>
      have hC := hide (show codeG os D vs k = 2 by unfold codeG; rw [hm, hi]; rfl)
      have hGA := hide (show gaG os D vs k = 0 by unfold gaG; rw [if_neg (by rw [hC.out]; decide)])
      go_enter Try.func25, Try.ntmps25
      go_wp2_with fail
      obtain ⟨W, hW⟩ : ∃ W, w.alloc (.cells #[.slice A n c, .int .i64 D, .slice A' vs.length c'] 26) = W := ⟨_, rfl⟩
      have hbW : Below w.heap.size w W := by rw [← hW]; exact (by repeat (first | assumption | exact Below.refl _ _ | apply below_drewN | apply Below.drew | apply Below.alloc | apply Below.setCell | omega | (focus (simp; done)) | (focus (simp; omega))))
      have hszW : w.heap.size < W.heap.size := by rw [← hW]; simp
      have hsW := hide (show W.heap.size = w.heap.size + 1 by rw [← hW]; simp)
      have bM : Blk W w.heap.size 26 #[.slice A n c, .int .i64 D, .slice A' vs.length c'] := by rw [← hW]; exact Blk.new _ _ _
      have q0 : W.cell? ⟨w.heap.size, 0, none⟩ = some (.slice A n c) := by rw [← hW]; exact (Blk.new _ _ _).cell 0
      have q1 : W.cell? ⟨w.heap.size, 1, none⟩ = some (.int .i64 D) := by rw [← hW]; exact (Blk.new _ _ _).cell 1
      have q2 : W.cell? ⟨w.heap.size, 2, none⟩ = some (.slice A' vs.length c') := by rw [← hW]; exact (Blk.new _ _ _).cell 2
      rw [hW]
      clear hW
      have hs := (h.below hbW).more (Nat.le_of_lt hszW)
      have hs' := (h'.below hbW).more (Nat.le_of_lt hszW)
      go_wp2_with fail
      refine (implIs_v true _ _ _ _ _ _ _ _ _ _ hs hs' hn hn' hm).mono ?_
      rintro e w2 ⟨rfl, hb2⟩
      go_wp2_with fail
      refine (within_v false _ _ _ _ hi).mono ?_
      rintro e w3 ⟨rfl, dm, rfl⟩
      go_wp2_with fail
      refine bodyPost_ret (v := .tuple #[.int .i64 0, .int .i64 2]) (by simp [results, Try.results25, go_sem]) rfl ?_
      exact ⟨by rw [hC.out, hGA.out], below_drewN (hbW.trans (hb2.mono (Nat.le_of_lt hszW))) _⟩
    | true =>
      have hC := hide (show codeG os D vs k = 0 by unfold codeG; rw [hm, hi]; rfl)
      have hGA := hide (show gaG os D vs k = ((gsum D.toNat k vs % 55441 : Nat) : Int) by unfold gaG; rw [if_pos hC.out])
      have hk01 : -100000 ≤ k ∧ k ≤ 100000 := by simpa [inB] using hi
      have hd1 := hM.ok.d1
      have hd2 := hM.ok.d2
      have hrg := hide hM.ok.rng
      obtain ⟨D, rfl⟩ : ∃ m : Nat, D = (m : Int) := ⟨D.toNat, by omega⟩
      obtain ⟨g, hg⟩ : ∃ g, gsum D k vs % 55441 = g := ⟨_, rfl⟩
      rw [show (D : Int).toNat = D from rfl, hg] at hGA
      go_enter Try.func25, Try.ntmps25
      go_wp2_with fail
      obtain ⟨W, hW⟩ : ∃ W, w.alloc (.cells #[.slice A n c, .int .i64 D, .slice A' vs.length c'] 26) = W := ⟨_, rfl⟩
      have hbW : Below w.heap.size w W := by rw [← hW]; exact (by repeat (first | assumption | exact Below.refl _ _ | apply below_drewN | apply Below.drew | apply Below.alloc | apply Below.setCell | omega | (focus (simp; done)) | (focus (simp; omega))))
      have hszW : w.heap.size < W.heap.size := by rw [← hW]; simp
      have hsW := hide (show W.heap.size = w.heap.size + 1 by rw [← hW]; simp)
      have bM : Blk W w.heap.size 26 #[.slice A n c, .int .i64 D, .slice A' vs.length c'] := by rw [← hW]; exact Blk.new _ _ _
      have q0 : W.cell? ⟨w.heap.size, 0, none⟩ = some (.slice A n c) := by rw [← hW]; exact (Blk.new _ _ _).cell 0
      have q1 : W.cell? ⟨w.heap.size, 1, none⟩ = some (.int .i64 D) := by rw [← hW]; exact (Blk.new _ _ _).cell 1
      have q2 : W.cell? ⟨w.heap.size, 2, none⟩ = some (.slice A' vs.length c') := by rw [← hW]; exact (Blk.new _ _ _).cell 2
      rw [hW]
      clear hW
      have hs := (h.below hbW).more (Nat.le_of_lt hszW)
      have hs' := (h'.below hbW).more (Nat.le_of_lt hszW)
      go_wp2_with fail
      refine (implIs_v true _ _ _ _ _ _ _ _ _ _ hs hs' hn hn' hm).mono ?_
      rintro e w2 ⟨rfl, hb2⟩
      go_wp2_with fail
      refine (within_v true _ _ _ _ hi).mono ?_
      rintro e w3 ⟨rfl, dm, rfl⟩
      have k3 : Below W.heap.size W (w2.drewN dm) := below_drewN hb2 _
      have r0 := (k3.cell (p := ⟨w.heap.size, 0, none⟩) hszW).trans q0
      have r1 := (k3.cell (p := ⟨w.heap.size, 1, none⟩) hszW).trans q1
      have r2 := (k3.cell (p := ⟨w.heap.size, 2, none⟩) hszW).trans q2
      go_wp2_with fail
      clear r0 r1 r2
      refine (gauss_any _ _ _ _ _ _ _ _ _ _ (by omega) (by omega) ((hs'.below k3).more k3.size) (by omega) hrg.out hk01.1 hk01.2).mono ?_
      rw [hg]
      rintro e w4 ⟨rfl, hb4⟩
      have k4 := k3.trans (hb4.mono k3.size)
      go_wp2_with fail
      refine bodyPost_ret (v := .tuple #[.int .i64 g, .int .i64 0]) (by simp [results, Try.results25, go_sem]) rfl ?_
      exact ⟨by rw [hC.out, hGA.out], hbW.trans (k4.mono (Nat.le_of_lt hszW))⟩

set_option maxHeartbeats 1000000 in
theorem impl_Add_any (w : World) (A : Option Addr) (n c : Nat) (os : List Int) (D : Int) (A' : Option Addr) (n' c' : Nat) (vs : List Int) (x y : Int) (hx : i64ok x) (hy : i64ok y) (h : Sl w w.heap.size A n c os) (h' : Sl w w.heap.size A' n' c' vs) (hn : n ≤ 1048576) (hn' : n' ≤ 1048576) :
    Calls Try.prog 17 #[.agg #[.slice A n c, .int .i64 D, .slice A' n' c'], .int .i64 x, .int .i64 y] w (Re2 w (if codeE os D vs [x, y] = 0 then (Ar os x y) else 0) (codeE os D vs [x, y])) := by
  obtain rfl := h'.len
  have hcode := fun W A n c A' n' c' LL l lc => elementCode_any W A n c os D A' n' c' vs LL l lc [x, y]
  obtain ⟨k, hk⟩ : ∃ k, codeE os D vs [x, y] = k := ⟨_, rfl⟩
  have h0 : k = 0 → IsM os D vs ∧ allIn 0 (prodL os - 1) [x, y] = true := fun e => codeE_0 (hk.trans e)
  rw [hk] at hcode ⊢
  clear hk
  by_cases hk0 : k = 0
  · subst hk0
    obtain ⟨hM, hin⟩ := h0 rfl
    clear h0
    rw [if_pos rfl]
    have hG := hM.ok.g
    have hp16 := hG.p16
    have hxr : 0 ≤ x ∧ x ≤ prodL os - 1 := allIn_gi hin (k := 0) (by simp)
    have hyr : 0 ≤ y ∧ y ≤ prodL os - 1 := allIn_gi hin (k := 1) (by simp)
    have hin' := hide hin
    clear hin
    go_enter Try.func17, Try.ntmps17
    go_wp2_with fail
    obtain ⟨W, hW⟩ : ∃ W, w.alloc (.cells #[.slice A n c, .int .i64 D, .slice A' vs.length c'] 26) = W := ⟨_, rfl⟩
    have hbW : Below w.heap.size w W := by rw [← hW]; exact (by repeat (first | assumption | exact Below.refl _ _ | apply below_drewN | apply Below.drew | apply Below.alloc | apply Below.setCell | omega | (focus (simp; done)) | (focus (simp; omega))))
    have hszW : w.heap.size < W.heap.size := by rw [← hW]; simp
    have hsW := hide (show W.heap.size = w.heap.size + 1 by rw [← hW]; simp)
    have bM : Blk W w.heap.size 26 #[.slice A n c, .int .i64 D, .slice A' vs.length c'] := by rw [← hW]; exact Blk.new _ _ _
    have q0 : W.cell? ⟨w.heap.size, 0, none⟩ = some (.slice A n c) := by rw [← hW]; exact (Blk.new _ _ _).cell 0
    have q1 : W.cell? ⟨w.heap.size, 1, none⟩ = some (.int .i64 D) := by rw [← hW]; exact (Blk.new _ _ _).cell 1
    have q2 : W.cell? ⟨w.heap.size, 2, none⟩ = some (.slice A' vs.length c') := by rw [← hW]; exact (Blk.new _ _ _).cell 2
    rw [hW]
    clear hW
    have hs := (h.below hbW).more (Nat.le_of_lt hszW)
    have hs' := (h'.below hbW).more (Nat.le_of_lt hszW)
    have hsl : ∀ wd, Below W.heap.size W wd → Sl wd wd.heap.size A n c os := fun wd h => (hs.below h).more h.size
    have hsv : ∀ wd, Below W.heap.size W wd → Sl wd wd.heap.size A' vs.length c' vs := fun wd h => (hs'.below h).more h.size
    refine (hcode _ _ _ _ _ _ _ _ _ _ (hsl _ ((Below.refl _ _).alloc (Nat.le_refl _) _)) (hsv _ ((Below.refl _ _).alloc (Nat.le_refl _) _)) (sl_two _ _ hsW.out _ _ hx hy) hn hn' (by omega)).mono ?_
    rintro e w2 ⟨rfl, hb2⟩
    have k2 := ((Below.refl W.heap.size W).alloc (Nat.le_refl _) _).trans (hb2.mono (by simp))
    have r0 := (k2.cell (p := ⟨w.heap.size, 0, none⟩) hszW).trans q0
    have r1 := (k2.cell (p := ⟨w.heap.size, 1, none⟩) hszW).trans q1
    have r2 := (k2.cell (p := ⟨w.heap.size, 2, none⟩) hszW).trans q2
    go_wp2_with fail
    refine (plus_any _ _ _ _ _ _ _ _ _ (hsl _ k2) hG (by omega) (by omega) (by omega) (by omega)).mono ?_
    rintro e w3 ⟨rfl, hb3⟩
    have k3 := k2.trans (hb3.mono k2.size)
    go_wp2
    refine bodyPost_ret (v := .tuple #[.int .i64 (Ar os x y), .int .i64 0]) (by simp [results, Try.results17, go_sem]) rfl ?_
    exact ⟨rfl, hbW.trans (k3.mono (Nat.le_of_lt hszW))⟩
  · clear h0
    rw [if_neg hk0]
    have hkb : (k != 0) = true := by simpa using hk0
    go_enter Try.func17, Try.ntmps17
    go_wp2_with fail
    obtain ⟨W, hW⟩ : ∃ W, w.alloc (.cells #[.slice A n c, .int .i64 D, .slice A' vs.length c'] 26) = W := ⟨_, rfl⟩
    have hbW : Below w.heap.size w W := by rw [← hW]; exact (by repeat (first | assumption | exact Below.refl _ _ | apply below_drewN | apply Below.drew | apply Below.alloc | apply Below.setCell | omega | (focus (simp; done)) | (focus (simp; omega))))
    have hszW : w.heap.size < W.heap.size := by rw [← hW]; simp
    have hsW := hide (show W.heap.size = w.heap.size + 1 by rw [← hW]; simp)
    have bM : Blk W w.heap.size 26 #[.slice A n c, .int .i64 D, .slice A' vs.length c'] := by rw [← hW]; exact Blk.new _ _ _
    have q0 : W.cell? ⟨w.heap.size, 0, none⟩ = some (.slice A n c) := by rw [← hW]; exact (Blk.new _ _ _).cell 0
    have q1 : W.cell? ⟨w.heap.size, 1, none⟩ = some (.int .i64 D) := by rw [← hW]; exact (Blk.new _ _ _).cell 1
    have q2 : W.cell? ⟨w.heap.size, 2, none⟩ = some (.slice A' vs.length c') := by rw [← hW]; exact (Blk.new _ _ _).cell 2
    rw [hW]
    clear hW
    have hs := (h.below hbW).more (Nat.le_of_lt hszW)
    have hs' := (h'.below hbW).more (Nat.le_of_lt hszW)
    have hsl : ∀ wd, Below W.heap.size W wd → Sl wd wd.heap.size A n c os := fun wd h => (hs.below h).more h.size
    have hsv : ∀ wd, Below W.heap.size W wd → Sl wd wd.heap.size A' vs.length c' vs := fun wd h => (hs'.below h).more h.size
    refine (hcode _ _ _ _ _ _ _ _ _ _ (hsl _ ((Below.refl _ _).alloc (Nat.le_refl _) _)) (hsv _ ((Below.refl _ _).alloc (Nat.le_refl _) _)) (sl_two _ _ hsW.out _ _ hx hy) hn hn' (by omega)).mono ?_
    rintro e w2 ⟨rfl, hb2⟩
    have k2 := ((Below.refl W.heap.size W).alloc (Nat.le_refl _) _).trans (hb2.mono (by simp))
    go_wp2_with fail
    refine bodyPost_ret (v := .tuple #[.int .i64 0, .int .i64 k]) (by simp [results, Try.results17, go_sem]) rfl ?_
    exact ⟨rfl, hbW.trans (k2.mono (Nat.le_of_lt hszW))⟩
set_option maxHeartbeats 1000000 in
theorem impl_Neg_any (w : World) (A : Option Addr) (n c : Nat) (os : List Int) (D : Int) (A' : Option Addr) (n' c' : Nat) (vs : List Int) (x : Int) (hx : i64ok x) (h : Sl w w.heap.size A n c os) (h' : Sl w w.heap.size A' n' c' vs) (hn : n ≤ 1048576) (hn' : n' ≤ 1048576) :
    Calls Try.prog 18 #[.agg #[.slice A n c, .int .i64 D, .slice A' n' c'], .int .i64 x] w (Re2 w (if codeE os D vs [x] = 0 then (Ng os x) else 0) (codeE os D vs [x])) := by
  obtain rfl := h'.len
  have hcode := fun W A n c A' n' c' LL l lc => elementCode_any W A n c os D A' n' c' vs LL l lc [x]
  obtain ⟨k, hk⟩ : ∃ k, codeE os D vs [x] = k := ⟨_, rfl⟩
  have h0 : k = 0 → IsM os D vs ∧ allIn 0 (prodL os - 1) [x] = true := fun e => codeE_0 (hk.trans e)
  rw [hk] at hcode ⊢
  clear hk
  by_cases hk0 : k = 0
  · subst hk0
    obtain ⟨hM, hin⟩ := h0 rfl
    clear h0
    rw [if_pos rfl]
    have hG := hM.ok.g
    have hp16 := hG.p16
    have hxr : 0 ≤ x ∧ x ≤ prodL os - 1 := allIn_gi hin (k := 0) (by simp)
    have hin' := hide hin
    clear hin
    go_enter Try.func18, Try.ntmps18
    go_wp2_with fail
    obtain ⟨W, hW⟩ : ∃ W, w.alloc (.cells #[.slice A n c, .int .i64 D, .slice A' vs.length c'] 26) = W := ⟨_, rfl⟩
    have hbW : Below w.heap.size w W := by rw [← hW]; exact (by repeat (first | assumption | exact Below.refl _ _ | apply below_drewN | apply Below.drew | apply Below.alloc | apply Below.setCell | omega | (focus (simp; done)) | (focus (simp; omega))))
    have hszW : w.heap.size < W.heap.size := by rw [← hW]; simp
    have hsW := hide (show W.heap.size = w.heap.size + 1 by rw [← hW]; simp)
    have bM : Blk W w.heap.size 26 #[.slice A n c, .int .i64 D, .slice A' vs.length c'] := by rw [← hW]; exact Blk.new _ _ _
    have q0 : W.cell? ⟨w.heap.size, 0, none⟩ = some (.slice A n c) := by rw [← hW]; exact (Blk.new _ _ _).cell 0
    have q1 : W.cell? ⟨w.heap.size, 1, none⟩ = some (.int .i64 D) := by rw [← hW]; exact (Blk.new _ _ _).cell 1
    have q2 : W.cell? ⟨w.heap.size, 2, none⟩ = some (.slice A' vs.length c') := by rw [← hW]; exact (Blk.new _ _ _).cell 2
    rw [hW]
    clear hW
    have hs := (h.below hbW).more (Nat.le_of_lt hszW)
    have hs' := (h'.below hbW).more (Nat.le_of_lt hszW)
    have hsl : ∀ wd, Below W.heap.size W wd → Sl wd wd.heap.size A n c os := fun wd h => (hs.below h).more h.size
    have hsv : ∀ wd, Below W.heap.size W wd → Sl wd wd.heap.size A' vs.length c' vs := fun wd h => (hs'.below h).more h.size
    refine (hcode _ _ _ _ _ _ _ _ _ _ (hsl _ ((Below.refl _ _).alloc (Nat.le_refl _) _)) (hsv _ ((Below.refl _ _).alloc (Nat.le_refl _) _)) (sl_one _ _ hsW.out _ hx) hn hn' (by omega)).mono ?_
    rintro e w2 ⟨rfl, hb2⟩
    have k2 := ((Below.refl W.heap.size W).alloc (Nat.le_refl _) _).trans (hb2.mono (by simp))
    have r0 := (k2.cell (p := ⟨w.heap.size, 0, none⟩) hszW).trans q0
    have r1 := (k2.cell (p := ⟨w.heap.size, 1, none⟩) hszW).trans q1
    have r2 := (k2.cell (p := ⟨w.heap.size, 2, none⟩) hszW).trans q2
    go_wp2_with fail
    refine (minus_any _ _ _ _ _ _ _ _ (hsl _ k2) hG (by omega) (by omega) _ _ _ rfl _ rfl).mono ?_
    rintro e w3 ⟨rfl, hb3⟩
    have k3 := k2.trans (hb3.mono k2.size)
    go_wp2
    refine bodyPost_ret (v := .tuple #[.int .i64 (Ng os x), .int .i64 0]) (by simp [results, Try.results18, go_sem]) rfl ?_
    exact ⟨rfl, hbW.trans (k3.mono (Nat.le_of_lt hszW))⟩
  · clear h0
    rw [if_neg hk0]
    have hkb : (k != 0) = true := by simpa using hk0
    go_enter Try.func18, Try.ntmps18
    go_wp2_with fail
    obtain ⟨W, hW⟩ : ∃ W, w.alloc (.cells #[.slice A n c, .int .i64 D, .slice A' vs.length c'] 26) = W := ⟨_, rfl⟩
    have hbW : Below w.heap.size w W := by rw [← hW]; exact (by repeat (first | assumption | exact Below.refl _ _ | apply below_drewN | apply Below.drew | apply Below.alloc | apply Below.setCell | omega | (focus (simp; done)) | (focus (simp; omega))))
    have hszW : w.heap.size < W.heap.size := by rw [← hW]; simp
    have hsW := hide (show W.heap.size = w.heap.size + 1 by rw [← hW]; simp)
    have bM : Blk W w.heap.size 26 #[.slice A n c, .int .i64 D, .slice A' vs.length c'] := by rw [← hW]; exact Blk.new _ _ _
    have q0 : W.cell? ⟨w.heap.size, 0, none⟩ = some (.slice A n c) := by rw [← hW]; exact (Blk.new _ _ _).cell 0
    have q1 : W.cell? ⟨w.heap.size, 1, none⟩ = some (.int .i64 D) := by rw [← hW]; exact (Blk.new _ _ _).cell 1
    have q2 : W.cell? ⟨w.heap.size, 2, none⟩ = some (.slice A' vs.length c') := by rw [← hW]; exact (Blk.new _ _ _).cell 2
    rw [hW]
    clear hW
    have hs := (h.below hbW).more (Nat.le_of_lt hszW)
    have hs' := (h'.below hbW).more (Nat.le_of_lt hszW)
    have hsl : ∀ wd, Below W.heap.size W wd → Sl wd wd.heap.size A n c os := fun wd h => (hs.below h).more h.size
    have hsv : ∀ wd, Below W.heap.size W wd → Sl wd wd.heap.size A' vs.length c' vs := fun wd h => (hs'.below h).more h.size
    refine (hcode _ _ _ _ _ _ _ _ _ _ (hsl _ ((Below.refl _ _).alloc (Nat.le_refl _) _)) (hsv _ ((Below.refl _ _).alloc (Nat.le_refl _) _)) (sl_one _ _ hsW.out _ hx) hn hn' (by omega)).mono ?_
    rintro e w2 ⟨rfl, hb2⟩
    have k2 := ((Below.refl W.heap.size W).alloc (Nat.le_refl _) _).trans (hb2.mono (by simp))
    go_wp2_with fail
    refine bodyPost_ret (v := .tuple #[.int .i64 0, .int .i64 k]) (by simp [results, Try.results18, go_sem]) rfl ?_
    exact ⟨rfl, hbW.trans (k2.mono (Nat.le_of_lt hszW))⟩
set_option maxHeartbeats 1000000 in
theorem spec_Pair_any (w : World) (A : Option Addr) (n c : Nat) (os : List Int) (D : Int) (A' : Option Addr) (n' c' : Nat) (vs : List Int) (x y : Int) (hx : i64ok x) (hy : i64ok y) (h : Sl w w.heap.size A n c os) (h' : Sl w w.heap.size A' n' c' vs) (hn : n ≤ 1048576) (hn' : n' ≤ 1048576) :
    Calls Try.prog 8 #[.agg #[.slice A n c, .int .i64 D, .slice A' n' c'], .int .i64 x, .int .i64 y] w (Re2 w (if codeE os D vs [x, y] = 0 then (Pr os D vs x y) else 0) (codeE os D vs [x, y])) := by
  obtain rfl := h'.len
  have hcode := fun W A n c A' n' c' LL l lc => l10Code_any W A n c os D A' n' c' vs LL l lc [x, y]
  obtain ⟨k, hk⟩ : ∃ k, codeE os D vs [x, y] = k := ⟨_, rfl⟩
  have h0 : k = 0 → IsM os D vs ∧ allIn 0 (prodL os - 1) [x, y] = true := fun e => codeE_0 (hk.trans e)
  rw [hk] at hcode ⊢
  clear hk
  by_cases hk0 : k = 0
  · subst hk0
    obtain ⟨hM, hin⟩ := h0 rfl
    clear h0
    rw [if_pos rfl]
    have hG := hM.ok.g
    have hp16 := hG.p16
    have hxr : 0 ≤ x ∧ x ≤ prodL os - 1 := allIn_gi hin (k := 0) (by simp)
    have hyr : 0 ≤ y ∧ y ≤ prodL os - 1 := allIn_gi hin (k := 1) (by simp)
    obtain ⟨x, rfl⟩ : ∃ m : Nat, x = (m : Int) := ⟨x.toNat, by omega⟩
    obtain ⟨y, rfl⟩ : ∃ m : Nat, y = (m : Int) := ⟨y.toNat, by omega⟩
    have hin' := hide hin
    clear hin
    go_enter Try.func8, Try.ntmps8
    go_wp2_with fail
    obtain ⟨W, hW⟩ : ∃ W, w.alloc (.cells #[.slice A n c, .int .i64 D, .slice A' vs.length c'] 26) = W := ⟨_, rfl⟩
    have hbW : Below w.heap.size w W := by rw [← hW]; exact (by repeat (first | assumption | exact Below.refl _ _ | apply below_drewN | apply Below.drew | apply Below.alloc | apply Below.setCell | omega | (focus (simp; done)) | (focus (simp; omega))))
    have hszW : w.heap.size < W.heap.size := by rw [← hW]; simp
    have hsW := hide (show W.heap.size = w.heap.size + 1 by rw [← hW]; simp)
    have bM : Blk W w.heap.size 26 #[.slice A n c, .int .i64 D, .slice A' vs.length c'] := by rw [← hW]; exact Blk.new _ _ _
    have q0 : W.cell? ⟨w.heap.size, 0, none⟩ = some (.slice A n c) := by rw [← hW]; exact (Blk.new _ _ _).cell 0
    have q1 : W.cell? ⟨w.heap.size, 1, none⟩ = some (.int .i64 D) := by rw [← hW]; exact (Blk.new _ _ _).cell 1
    have q2 : W.cell? ⟨w.heap.size, 2, none⟩ = some (.slice A' vs.length c') := by rw [← hW]; exact (Blk.new _ _ _).cell 2
    rw [hW]
    clear hW
    have hs := (h.below hbW).more (Nat.le_of_lt hszW)
    have hs' := (h'.below hbW).more (Nat.le_of_lt hszW)
    have hsl : ∀ wd, Below W.heap.size W wd → Sl wd wd.heap.size A n c os := fun wd h => (hs.below h).more h.size
    have hsv : ∀ wd, Below W.heap.size W wd → Sl wd wd.heap.size A' vs.length c' vs := fun wd h => (hs'.below h).more h.size
    refine (hcode _ _ _ _ _ _ _ _ _ _ (hsl _ ((Below.refl _ _).alloc (Nat.le_refl _) _)) (hsv _ ((Below.refl _ _).alloc (Nat.le_refl _) _)) (sl_two _ _ hsW.out _ _ hx hy) hn hn' (by omega)).mono ?_
    rintro e w2 ⟨rfl, hb2⟩
    have k2 := ((Below.refl W.heap.size W).alloc (Nat.le_refl _) _).trans (hb2.mono (by simp))
    have r0 := (k2.cell (p := ⟨w.heap.size, 0, none⟩) hszW).trans q0
    have r1 := (k2.cell (p := ⟨w.heap.size, 1, none⟩) hszW).trans q1
    have r2 := (k2.cell (p := ⟨w.heap.size, 2, none⟩) hszW).trans q2
    go_wp2_with fail
    refine (l10Pair_any _ _ _ _ _ _ _ _ _ _ _ _ (hsl _ k2) (hsv _ k2) hM.ok (by omega) (by omega)).mono ?_
    rintro e w3 ⟨rfl, hb3⟩
    have k3 := k2.trans (hb3.mono k2.size)
    go_wp2
    refine bodyPost_ret (v := .tuple #[.int .i64 (Pr os D vs x y), .int .i64 0]) (by simp [results, Try.results8, go_sem]) rfl ?_
    exact ⟨rfl, hbW.trans (k3.mono (Nat.le_of_lt hszW))⟩
  · clear h0
    rw [if_neg hk0]
    have hkb : (k != 0) = true := by simpa using hk0
    go_enter Try.func8, Try.ntmps8
    go_wp2_with fail
    obtain ⟨W, hW⟩ : ∃ W, w.alloc (.cells #[.slice A n c, .int .i64 D, .slice A' vs.length c'] 26) = W := ⟨_, rfl⟩
    have hbW : Below w.heap.size w W := by rw [← hW]; exact (by repeat (first | assumption | exact Below.refl _ _ | apply below_drewN | apply Below.drew | apply Below.alloc | apply Below.setCell | omega | (focus (simp; done)) | (focus (simp; omega))))
    have hszW : w.heap.size < W.heap.size := by rw [← hW]; simp
    have hsW := hide (show W.heap.size = w.heap.size + 1 by rw [← hW]; simp)
    have bM : Blk W w.heap.size 26 #[.slice A n c, .int .i64 D, .slice A' vs.length c'] := by rw [← hW]; exact Blk.new _ _ _
    have q0 : W.cell? ⟨w.heap.size, 0, none⟩ = some (.slice A n c) := by rw [← hW]; exact (Blk.new _ _ _).cell 0
    have q1 : W.cell? ⟨w.heap.size, 1, none⟩ = some (.int .i64 D) := by rw [← hW]; exact (Blk.new _ _ _).cell 1
    have q2 : W.cell? ⟨w.heap.size, 2, none⟩ = some (.slice A' vs.length c') := by rw [← hW]; exact (Blk.new _ _ _).cell 2
    rw [hW]
    clear hW
    have hs := (h.below hbW).more (Nat.le_of_lt hszW)
    have hs' := (h'.below hbW).more (Nat.le_of_lt hszW)
    have hsl : ∀ wd, Below W.heap.size W wd → Sl wd wd.heap.size A n c os := fun wd h => (hs.below h).more h.size
    have hsv : ∀ wd, Below W.heap.size W wd → Sl wd wd.heap.size A' vs.length c' vs := fun wd h => (hs'.below h).more h.size
    refine (hcode _ _ _ _ _ _ _ _ _ _ (hsl _ ((Below.refl _ _).alloc (Nat.le_refl _) _)) (hsv _ ((Below.refl _ _).alloc (Nat.le_refl _) _)) (sl_two _ _ hsW.out _ _ hx hy) hn hn' (by omega)).mono ?_
    rintro e w2 ⟨rfl, hb2⟩
    have k2 := ((Below.refl W.heap.size W).alloc (Nat.le_refl _) _).trans (hb2.mono (by simp))
    go_wp2_with fail
    refine bodyPost_ret (v := .tuple #[.int .i64 0, .int .i64 k]) (by simp [results, Try.results8, go_sem]) rfl ?_
    exact ⟨rfl, hbW.trans (k2.mono (Nat.le_of_lt hszW))⟩
set_option maxHeartbeats 1000000 in
theorem impl_Pair_any (w : World) (A : Option Addr) (n c : Nat) (os : List Int) (D : Int) (A' : Option Addr) (n' c' : Nat) (vs : List Int) (x y : Int) (hx : i64ok x) (hy : i64ok y) (h : Sl w w.heap.size A n c os) (h' : Sl w w.heap.size A' n' c' vs) (hn : n ≤ 1048576) (hn' : n' ≤ 1048576) :
    Calls Try.prog 7 #[.agg #[.slice A n c, .int .i64 D, .slice A' n' c'], .int .i64 x, .int .i64 y] w (Re2 w (if codeE os D vs [x, y] = 0 then (Pr os D vs x y) else 0) (codeE os D vs [x, y])) := by
  obtain rfl := h'.len
  have hcode := fun W A n c A' n' c' LL l lc => elementCode_any W A n c os D A' n' c' vs LL l lc [x, y]
  obtain ⟨k, hk⟩ : ∃ k, codeE os D vs [x, y] = k := ⟨_, rfl⟩
  have h0 : k = 0 → IsM os D vs ∧ allIn 0 (prodL os - 1) [x, y] = true := fun e => codeE_0 (hk.trans e)
  rw [hk] at hcode ⊢
  clear hk
  by_cases hk0 : k = 0
  · subst hk0
    obtain ⟨hM, hin⟩ := h0 rfl
    clear h0
    rw [if_pos rfl]
    have hG := hM.ok.g
    have hp16 := hG.p16
    have hxr : 0 ≤ x ∧ x ≤ prodL os - 1 := allIn_gi hin (k := 0) (by simp)
    have hyr : 0 ≤ y ∧ y ≤ prodL os - 1 := allIn_gi hin (k := 1) (by simp)
    obtain ⟨x, rfl⟩ : ∃ m : Nat, x = (m : Int) := ⟨x.toNat, by omega⟩
    obtain ⟨y, rfl⟩ : ∃ m : Nat, y = (m : Int) := ⟨y.toNat, by omega⟩
    have hin' := hide hin
    clear hin
    go_enter Try.func7, Try.ntmps7
    go_wp2_with fail
    obtain ⟨W, hW⟩ : ∃ W, w.alloc (.cells #[.slice A n c, .int .i64 D, .slice A' vs.length c'] 26) = W := ⟨_, rfl⟩
    have hbW : Below w.heap.size w W := by rw [← hW]; exact (by repeat (first | assumption | exact Below.refl _ _ | apply below_drewN | apply Below.drew | apply Below.alloc | apply Below.setCell | omega | (focus (simp; done)) | (focus (simp; omega))))
    have hszW : w.heap.size < W.heap.size := by rw [← hW]; simp
    have hsW := hide (show W.heap.size = w.heap.size + 1 by rw [← hW]; simp)
    have bM : Blk W w.heap.size 26 #[.slice A n c, .int .i64 D, .slice A' vs.length c'] := by rw [← hW]; exact Blk.new _ _ _
    have q0 : W.cell? ⟨w.heap.size, 0, none⟩ = some (.slice A n c) := by rw [← hW]; exact (Blk.new _ _ _).cell 0
    have q1 : W.cell? ⟨w.heap.size, 1, none⟩ = some (.int .i64 D) := by rw [← hW]; exact (Blk.new _ _ _).cell 1
    have q2 : W.cell? ⟨w.heap.size, 2, none⟩ = some (.slice A' vs.length c') := by rw [← hW]; exact (Blk.new _ _ _).cell 2
    rw [hW]
    clear hW
    have hs := (h.below hbW).more (Nat.le_of_lt hszW)
    have hs' := (h'.below hbW).more (Nat.le_of_lt hszW)
    have hsl : ∀ wd, Below W.heap.size W wd → Sl wd wd.heap.size A n c os := fun wd h => (hs.below h).more h.size
    have hsv : ∀ wd, Below W.heap.size W wd → Sl wd wd.heap.size A' vs.length c' vs := fun wd h => (hs'.below h).more h.size
    refine (hcode _ _ _ _ _ _ _ _ _ _ (hsl _ ((Below.refl _ _).alloc (Nat.le_refl _) _)) (hsv _ ((Below.refl _ _).alloc (Nat.le_refl _) _)) (sl_two _ _ hsW.out _ _ hx hy) hn hn' (by omega)).mono ?_
    rintro e w2 ⟨rfl, hb2⟩
    have k2 := ((Below.refl W.heap.size W).alloc (Nat.le_refl _) _).trans (hb2.mono (by simp))
    have r0 := (k2.cell (p := ⟨w.heap.size, 0, none⟩) hszW).trans q0
    have r1 := (k2.cell (p := ⟨w.heap.size, 1, none⟩) hszW).trans q1
    have r2 := (k2.cell (p := ⟨w.heap.size, 2, none⟩) hszW).trans q2
    go_wp2_with fail
    refine (pair_any _ _ _ _ _ _ _ _ _ _ _ _ (hsl _ k2) (hsv _ k2) hM.ok (by omega) (by omega)).mono ?_
    rintro e w3 ⟨rfl, hb3⟩
    have k3 := k2.trans (hb3.mono k2.size)
    go_wp2
    refine bodyPost_ret (v := .tuple #[.int .i64 (Pr os D vs x y), .int .i64 0]) (by simp [results, Try.results7, go_sem]) rfl ?_
    exact ⟨rfl, hbW.trans (k3.mono (Nat.le_of_lt hszW))⟩
  · clear h0
    rw [if_neg hk0]
    have hkb : (k != 0) = true := by simpa using hk0
    go_enter Try.func7, Try.ntmps7
    go_wp2_with fail
    obtain ⟨W, hW⟩ : ∃ W, w.alloc (.cells #[.slice A n c, .int .i64 D, .slice A' vs.length c'] 26) = W := ⟨_, rfl⟩
    have hbW : Below w.heap.size w W := by rw [← hW]; exact (by repeat (first | assumption | exact Below.refl _ _ | apply below_drewN | apply Below.drew | apply Below.alloc | apply Below.setCell | omega | (focus (simp; done)) | (focus (simp; omega))))
    have hszW : w.heap.size < W.heap.size := by rw [← hW]; simp
    have hsW := hide (show W.heap.size = w.heap.size + 1 by rw [← hW]; simp)
    have bM : Blk W w.heap.size 26 #[.slice A n c, .int .i64 D, .slice A' vs.length c'] := by rw [← hW]; exact Blk.new _ _ _
    have q0 : W.cell? ⟨w.heap.size, 0, none⟩ = some (.slice A n c) := by rw [← hW]; exact (Blk.new _ _ _).cell 0
    have q1 : W.cell? ⟨w.heap.size, 1, none⟩ = some (.int .i64 D) := by rw [← hW]; exact (Blk.new _ _ _).cell 1
    have q2 : W.cell? ⟨w.heap.size, 2, none⟩ = some (.slice A' vs.length c') := by rw [← hW]; exact (Blk.new _ _ _).cell 2
    rw [hW]
    clear hW
    have hs := (h.below hbW).more (Nat.le_of_lt hszW)
    have hs' := (h'.below hbW).more (Nat.le_of_lt hszW)
    have hsl : ∀ wd, Below W.heap.size W wd → Sl wd wd.heap.size A n c os := fun wd h => (hs.below h).more h.size
    have hsv : ∀ wd, Below W.heap.size W wd → Sl wd wd.heap.size A' vs.length c' vs := fun wd h => (hs'.below h).more h.size
    refine (hcode _ _ _ _ _ _ _ _ _ _ (hsl _ ((Below.refl _ _).alloc (Nat.le_refl _) _)) (hsv _ ((Below.refl _ _).alloc (Nat.le_refl _) _)) (sl_two _ _ hsW.out _ _ hx hy) hn hn' (by omega)).mono ?_
    rintro e w2 ⟨rfl, hb2⟩
    have k2 := ((Below.refl W.heap.size W).alloc (Nat.le_refl _) _).trans (hb2.mono (by simp))
    go_wp2_with fail
    refine bodyPost_ret (v := .tuple #[.int .i64 0, .int .i64 k]) (by simp [results, Try.results7, go_sem]) rfl ?_
    exact ⟨rfl, hbW.trans (k2.mono (Nat.le_of_lt hszW))⟩
end Go.Proofs.Ytnoemhmmaicakaa
