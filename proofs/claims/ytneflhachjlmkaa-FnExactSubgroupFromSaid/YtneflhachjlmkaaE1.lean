
/- The walks of l10Code, elementCode. -/
import Derived.Test.YtneflhachjlmkaaI5
import Derived.WalkLawsBesides
namespace Go.Proofs.Ytneflhachjlmkaa
open Go Go.RowKit Grp
set_option linter.unusedSimpArgs false
set_option linter.unusedVariables false

/-- The code of a metric and of elements. -/
noncomputable def codeE (os : List Int) (D : Int) (vs xs : List Int) : Int := if isM os D vs = true then if allIn 0 (prodL os - 1) xs = true then 0 else 2 else 1
theorem codeE_0 {os vs xs : List Int} {D : Int} (h : codeE os D vs xs = 0) : IsM os D vs ∧ allIn 0 (prodL os - 1) xs = true := by
  unfold codeE at h
  split at h
  · rename_i h1
    split at h
    · rename_i h2; exact ⟨isM_iff.1 h1, h2⟩
    · omega
  · omega
theorem allIn_gi {lo hi : Int} {xs : List Int} (h : allIn lo hi xs = true) {k : Nat} (hk : k < xs.length) : lo ≤ gi xs k ∧ gi xs k ≤ hi := by
  have := List.all_eq_true.1 h _ (gi_mem hk)
  simpa [inB] using this
theorem l10Is_v (b : Bool) (w : World) (A : Option Addr) (n c : Nat) (os : List Int) (D : Int) (A' : Option Addr) (n' c' : Nat) (vs : List Int) (h : Sl w w.heap.size A n c os) (h' : Sl w w.heap.size A' n' c' vs) (hn : n ≤ 1048576) (hn' : n' ≤ 1048576) (hb : isM os D vs = b) :
    Calls Try.prog 98 #[.agg #[.slice A n c, .int .i64 D, .slice A' n' c']] w (Re w (.bool b)) := hb ▸ l10Is_any w A n c os D A' n' c' vs h h' hn hn'
theorem implIs_v (b : Bool) (w : World) (A : Option Addr) (n c : Nat) (os : List Int) (D : Int) (A' : Option Addr) (n' c' : Nat) (vs : List Int) (h : Sl w w.heap.size A n c os) (h' : Sl w w.heap.size A' n' c' vs) (hn : n ≤ 1048576) (hn' : n' ≤ 1048576) (hb : isM os D vs = b) :
    Calls Try.prog 45 #[.agg #[.slice A n c, .int .i64 D, .slice A' n' c']] w (Re w (.bool b)) := hb ▸ implIs_any w A n c os D A' n' c' vs h h' hn hn'

set_option maxHeartbeats 1000000 in
theorem elementCode_any (w : World) (A : Option Addr) (n c : Nat) (os : List Int) (D : Int) (A' : Option Addr) (n' c' : Nat) (vs : List Int) (L : Option Addr) (l lc : Nat) (xs : List Int)
    (h : Sl w w.heap.size A n c os) (h' : Sl w w.heap.size A' n' c' vs) (hx : Sl w w.heap.size L l lc xs) (hn : n ≤ 1048576) (hn' : n' ≤ 1048576) (hl : l ≤ 1048576) :
    Calls Try.prog 111 #[.agg #[.slice A n c, .int .i64 D, .slice A' n' c'], .slice L l lc] w (Re w (.int .i64 (codeE os D vs xs))) := by
  obtain rfl := h'.len
  cases hm : isM os D vs with
  | false =>
    have hC := hide (show codeE os D vs xs = 1 by unfold codeE; rw [hm]; rfl)
    go_enter Try.func111, Try.ntmps111
    go_wp2_with fail
    obtain ⟨W, hW⟩ : ∃ W, w.alloc (.cells #[.slice A n c, .int .i64 D, .slice A' vs.length c'] 28) = W := ⟨_, rfl⟩
    have hbW : Below w.heap.size w W := by rw [← hW]; exact (by repeat (first | assumption | exact Below.refl _ _ | apply below_drewN | apply Below.drew | apply Below.alloc | apply Below.setCell | omega | (focus (simp; done)) | (focus (simp; omega))))
    have hszW : w.heap.size < W.heap.size := by rw [← hW]; simp
    have q0 : W.cell? ⟨w.heap.size, 0, none⟩ = some (.slice A n c) := by rw [← hW]; exact (Blk.new _ _ _).cell 0
    have q1 : W.cell? ⟨w.heap.size, 1, none⟩ = some (.int .i64 D) := by rw [← hW]; exact (Blk.new _ _ _).cell 1
    have q2 : W.cell? ⟨w.heap.size, 2, none⟩ = some (.slice A' vs.length c') := by rw [← hW]; exact (Blk.new _ _ _).cell 2
    rw [hW]
    clear hW
    have hs := (h.below hbW).more (Nat.le_of_lt hszW)
    have hs' := (h'.below hbW).more (Nat.le_of_lt hszW)
    go_wp2_with fail
    refine (implIs_v false _ _ _ _ _ _ _ _ _ _ hs hs' hn hn' hm).mono ?_
    rintro e w2 ⟨rfl, hb2⟩
    go_wp2
    go_ret
    exact ⟨by rw [hC.out]; rfl, hbW.trans (hb2.mono (Nat.le_of_lt hszW))⟩
  | true =>
    have hM := isM_iff.1 hm
    have hL := hM.ok.len
    have h16 := hM.ok.lt
    have hw : IntKind.i64.wrap ((vs.length : Int) - 1) = (vs.length : Int) - 1 := wrap_in (by omega) (by omega)
    obtain ⟨b, hb⟩ : ∃ b, allIn 0 ((vs.length : Int) - 1) xs = b := ⟨_, rfl⟩
    have hC := hide (show codeE os D vs xs = if b = true then 0 else 2 by unfold codeE; rw [hm, ← hL, hb]; rfl)
    have hHL := hide hL
    clear hL
    go_enter Try.func111, Try.ntmps111
    go_wp2_with fail
    obtain ⟨W, hW⟩ : ∃ W, w.alloc (.cells #[.slice A n c, .int .i64 D, .slice A' vs.length c'] 28) = W := ⟨_, rfl⟩
    have hbW : Below w.heap.size w W := by rw [← hW]; exact (by repeat (first | assumption | exact Below.refl _ _ | apply below_drewN | apply Below.drew | apply Below.alloc | apply Below.setCell | omega | (focus (simp; done)) | (focus (simp; omega))))
    have hszW : w.heap.size < W.heap.size := by rw [← hW]; simp
    have q0 : W.cell? ⟨w.heap.size, 0, none⟩ = some (.slice A n c) := by rw [← hW]; exact (Blk.new _ _ _).cell 0
    have q1 : W.cell? ⟨w.heap.size, 1, none⟩ = some (.int .i64 D) := by rw [← hW]; exact (Blk.new _ _ _).cell 1
    have q2 : W.cell? ⟨w.heap.size, 2, none⟩ = some (.slice A' vs.length c') := by rw [← hW]; exact (Blk.new _ _ _).cell 2
    rw [hW]
    clear hW
    have hs := (h.below hbW).more (Nat.le_of_lt hszW)
    have hs' := (h'.below hbW).more (Nat.le_of_lt hszW)
    have hxs := (hx.below hbW).more (Nat.le_of_lt hszW)
    go_wp2_with fail
    refine (implIs_v true _ _ _ _ _ _ _ _ _ _ hs hs' hn hn' hm).mono ?_
    rintro e w2 ⟨rfl, hb2⟩
    have r0 := (hb2.cell (p := ⟨w.heap.size, 0, none⟩) hszW).trans q0
    have r1 := (hb2.cell (p := ⟨w.heap.size, 1, none⟩) hszW).trans q1
    have r2 := (hb2.cell (p := ⟨w.heap.size, 2, none⟩) hszW).trans q2
    go_wp2_with fail
    clear r0 r1 r2
    refine (size_any _ _ _ _ _ _).mono ?_
    rintro e w3 ⟨rfl, hb3⟩
    have k3 := hb2.trans (hb3.mono hb2.size)
    go_wp2_with fail
    refine (allWithin_v b _ _ _ _ _ _ _ ((hxs.below k3).more k3.size) hl hb).mono ?_
    rintro e w4 ⟨rfl, hb4⟩
    have k4 := k3.trans (hb4.mono k3.size)
    cases b with
    | true =>
      go_wp2
      go_ret
      exact ⟨by rw [hC.out]; rfl, hbW.trans (k4.mono (Nat.le_of_lt hszW))⟩
    | false =>
      go_wp2
      go_ret
      exact ⟨by rw [hC.out]; rfl, hbW.trans (k4.mono (Nat.le_of_lt hszW))⟩
set_option maxHeartbeats 1000000 in
theorem l10Code_any (w : World) (A : Option Addr) (n c : Nat) (os : List Int) (D : Int) (A' : Option Addr) (n' c' : Nat) (vs : List Int) (L : Option Addr) (l lc : Nat) (xs : List Int)
    (h : Sl w w.heap.size A n c os) (h' : Sl w w.heap.size A' n' c' vs) (hx : Sl w w.heap.size L l lc xs) (hn : n ≤ 1048576) (hn' : n' ≤ 1048576) (hl : l ≤ 1048576) :
    Calls Try.prog 113 #[.agg #[.slice A n c, .int .i64 D, .slice A' n' c'], .slice L l lc] w (Re w (.int .i64 (codeE os D vs xs))) := by
  obtain rfl := h'.len
  obtain rfl := hx.len
  cases hm : isM os D vs with
  | false =>
    have hC := hide (show codeE os D vs xs = 1 by unfold codeE; rw [hm]; rfl)
    go_enter Try.func113, Try.ntmps113
    go_wp2_with fail
    obtain ⟨W, hW⟩ : ∃ W, w.alloc (.cells #[.slice A n c, .int .i64 D, .slice A' vs.length c'] 28) = W := ⟨_, rfl⟩
    have hbW : Below w.heap.size w W := by rw [← hW]; exact (by repeat (first | assumption | exact Below.refl _ _ | apply below_drewN | apply Below.drew | apply Below.alloc | apply Below.setCell | omega | (focus (simp; done)) | (focus (simp; omega))))
    have hszW : w.heap.size < W.heap.size := by rw [← hW]; simp
    have q0 : W.cell? ⟨w.heap.size, 0, none⟩ = some (.slice A n c) := by rw [← hW]; exact (Blk.new _ _ _).cell 0
    have q1 : W.cell? ⟨w.heap.size, 1, none⟩ = some (.int .i64 D) := by rw [← hW]; exact (Blk.new _ _ _).cell 1
    have q2 : W.cell? ⟨w.heap.size, 2, none⟩ = some (.slice A' vs.length c') := by rw [← hW]; exact (Blk.new _ _ _).cell 2
    rw [hW]
    clear hW
    have hs := (h.below hbW).more (Nat.le_of_lt hszW)
    have hs' := (h'.below hbW).more (Nat.le_of_lt hszW)
    go_wp2_with fail
    refine (l10Is_v false _ _ _ _ _ _ _ _ _ _ hs hs' hn hn' hm).mono ?_
    rintro e w2 ⟨rfl, hb2⟩
    go_wp2
    go_ret
    exact ⟨by rw [hC.out]; rfl, hbW.trans (hb2.mono (Nat.le_of_lt hszW))⟩
  | true =>
    have hM := isM_iff.1 hm
    have hG := hM.ok.g
    have hp16 := hG.p16
    have hp2 := hG.ge
    obtain ⟨N, hN⟩ : ∃ N, prodL os = N := ⟨_, rfl⟩
    have hHN := hide hN
    have hw : IntKind.i64.wrap (N - 1) = N - 1 := wrap_in (by omega) (by omega)
    go_enter Try.func113, Try.ntmps113
    go_wp2_with fail
    obtain ⟨W, hW⟩ : ∃ W, w.alloc (.cells #[.slice A n c, .int .i64 D, .slice A' vs.length c'] 28) = W := ⟨_, rfl⟩
    have hbW : Below w.heap.size w W := by rw [← hW]; exact (by repeat (first | assumption | exact Below.refl _ _ | apply below_drewN | apply Below.drew | apply Below.alloc | apply Below.setCell | omega | (focus (simp; done)) | (focus (simp; omega))))
    have hszW : w.heap.size < W.heap.size := by rw [← hW]; simp
    have q0 : W.cell? ⟨w.heap.size, 0, none⟩ = some (.slice A n c) := by rw [← hW]; exact (Blk.new _ _ _).cell 0
    have q1 : W.cell? ⟨w.heap.size, 1, none⟩ = some (.int .i64 D) := by rw [← hW]; exact (Blk.new _ _ _).cell 1
    have q2 : W.cell? ⟨w.heap.size, 2, none⟩ = some (.slice A' vs.length c') := by rw [← hW]; exact (Blk.new _ _ _).cell 2
    rw [hW]
    clear hW
    have hs := (h.below hbW).more (Nat.le_of_lt hszW)
    have hs' := (h'.below hbW).more (Nat.le_of_lt hszW)
    have hxs := (hx.below hbW)
    go_wp2_with fail
    refine (l10Is_v true _ _ _ _ _ _ _ _ _ _ hs hs' hn hn' hm).mono ?_
    rintro e w2 ⟨rfl, hBe⟩
    replace hBe : Below W.heap.size W w2 := hBe
    go_wp2_with fail
    go_loopw [5] (fun i wr => ∃ k : Nat, k ≤ xs.length ∧ i = .int .i64 k ∧ (∀ j, j < k → inB (gi xs j) 0 (prodL os - 1) = true) ∧ Below W.heap.size W wr) (fun i _ => xs.length - (intOf i).toNat)
    case atStart => exact ⟨0, by omega, rfl, fun j hj => absurd hj (by omega), hBe⟩
    case round =>
      clear hBe
      obtain ⟨k, hk, rfl, hpre, hBe⟩ := hrel
      have hP := hide hpre
      clear hpre
      by_cases hlt : k < xs.length
      · obtain ⟨b, off, rfl, hb, hc⟩ := hxs.at_ (by omega)
        have c1 := hc k hlt
        have hbG : b < W.heap.size := by omega
        clear hc
        cases hv : inB (gi xs k) 0 (N - 1) with
        | true =>
          obtain ⟨v, ev⟩ : ∃ v, gi xs k = v := ⟨_, rfl⟩
          have hEV := hide ev
          rw [ev] at c1 hv
          clear ev
          go_wp2
          refine wp_region_be [0, 1, 2, 3, 4, 5, 6, 7, 8, 9] 10 W.heap.size W (by kernel_rfl) (by kernel_rfl) (by kernel_rfl) (fun _ _ _ _ _ h => h) hBe (fun wd hBe => ?_)
          repeat (first | (apply ord_tk rfl (by rfl) (by rfl) (by rfl); (focus (intro wx hSw; have r0 := (hSw.cell (p := ⟨w.heap.size, 0, none⟩) hszW).trans q0; have r3 := (hSw.cell (p := ⟨b, off + k, none⟩) hbG).trans c1; go_simp; (try with_reducible rfl))); (try simp only [Act.put, List.setIfInBounds_toArray, List.set_cons_zero, List.set_cons_succ])) | (apply ord_skip rfl (by rfl) (by rfl) (fun _ => hBe); (try simp only [Act.put, List.setIfInBounds_toArray, List.set_cons_zero, List.set_cons_succ])))
          refine ord_do rfl (by rfl) (by rfl) (fun K hK => ?_)
          go_simp
          refine (((l10Size_any _ _ _ _ _ _ (hs.below hBe) hG).mono fun _ _ h => Qt.re h)).mono ?_
          rintro e wd' ⟨rfl, hwd⟩
          replace hBe := hBe.trans (hwd.mono hBe.size)
          clear hwd
          refine hK.out _ _ (fun _ => hBe) ?_
          (try simp only [Act.put, List.setIfInBounds_toArray, List.set_cons_zero, List.set_cons_succ])
          clear hK K
          rw [hN]
          repeat (first | (apply ord_tk rfl (by rfl) (by rfl) (by rfl); (focus (intro wx hSw; have r0 := (hSw.cell (p := ⟨w.heap.size, 0, none⟩) hszW).trans q0; have r3 := (hSw.cell (p := ⟨b, off + k, none⟩) hbG).trans c1; go_simp; (try with_reducible rfl))); (try simp only [Act.put, List.setIfInBounds_toArray, List.set_cons_zero, List.set_cons_succ])) | (apply ord_skip rfl (by rfl) (by rfl) (fun _ => hBe); (try simp only [Act.put, List.setIfInBounds_toArray, List.set_cons_zero, List.set_cons_succ])))
          refine ord_do rfl (by rfl) (by rfl) (fun K hK => ?_)
          go_simp
          refine (((l01In_v true _ _ _ _ hv).mono fun _ _ h => Qt.re h)).mono ?_
          rintro e wd' ⟨rfl, hwd⟩
          replace hBe := hBe.trans (hwd.mono hBe.size)
          clear hwd
          refine hK.out _ _ (fun _ => hBe) ?_
          (try simp only [Act.put, List.setIfInBounds_toArray, List.set_cons_zero, List.set_cons_succ])
          clear hK K
          repeat (first | (apply ord_tk rfl (by rfl) (by rfl) (by rfl); (focus (intro wx hSw; have r0 := (hSw.cell (p := ⟨w.heap.size, 0, none⟩) hszW).trans q0; have r3 := (hSw.cell (p := ⟨b, off + k, none⟩) hbG).trans c1; go_simp; (try with_reducible rfl))); (try simp only [Act.put, List.setIfInBounds_toArray, List.set_cons_zero, List.set_cons_succ])) | (apply ord_skip rfl (by rfl) (by rfl) (fun _ => hBe); (try simp only [Act.put, List.setIfInBounds_toArray, List.set_cons_zero, List.set_cons_succ])))
          refine ord_nil ?_
          go_wp2
          go_roundw
          case rel => exact ⟨k + 1, by omega, by go_num, fun j hj => by rcases Nat.lt_succ_iff_lt_or_eq.1 hj with h | rfl; exact hP.out j h; rw [hEV.out, hHN.out]; exact hv, hBe⟩
          case measure => simp [intOf] <;> omega
        | false =>
          have hC := hide (show codeE os D vs xs = 2 by unfold codeE; rw [hm, hN, if_pos rfl, if_neg]; rw [allIn_f hlt hv]; exact Bool.false_ne_true)
          obtain ⟨v, ev⟩ : ∃ v, gi xs k = v := ⟨_, rfl⟩
          rw [ev] at c1 hv
          clear ev
          go_wp2
          refine wp_region_be [0, 1, 2, 3, 4, 5, 6, 7, 8, 9] 10 W.heap.size W (by kernel_rfl) (by kernel_rfl) (by kernel_rfl) (fun _ _ _ _ _ h => h) hBe (fun wd hBe => ?_)
          repeat (first | (apply ord_tk rfl (by rfl) (by rfl) (by rfl); (focus (intro wx hSw; have r0 := (hSw.cell (p := ⟨w.heap.size, 0, none⟩) hszW).trans q0; have r3 := (hSw.cell (p := ⟨b, off + k, none⟩) hbG).trans c1; go_simp; (try with_reducible rfl))); (try simp only [Act.put, List.setIfInBounds_toArray, List.set_cons_zero, List.set_cons_succ])) | (apply ord_skip rfl (by rfl) (by rfl) (fun _ => hBe); (try simp only [Act.put, List.setIfInBounds_toArray, List.set_cons_zero, List.set_cons_succ])))
          refine ord_do rfl (by rfl) (by rfl) (fun K hK => ?_)
          go_simp
          refine (((l10Size_any _ _ _ _ _ _ (hs.below hBe) hG).mono fun _ _ h => Qt.re h)).mono ?_
          rintro e wd' ⟨rfl, hwd⟩
          replace hBe := hBe.trans (hwd.mono hBe.size)
          clear hwd
          refine hK.out _ _ (fun _ => hBe) ?_
          (try simp only [Act.put, List.setIfInBounds_toArray, List.set_cons_zero, List.set_cons_succ])
          clear hK K
          rw [hN]
          repeat (first | (apply ord_tk rfl (by rfl) (by rfl) (by rfl); (focus (intro wx hSw; have r0 := (hSw.cell (p := ⟨w.heap.size, 0, none⟩) hszW).trans q0; have r3 := (hSw.cell (p := ⟨b, off + k, none⟩) hbG).trans c1; go_simp; (try with_reducible rfl))); (try simp only [Act.put, List.setIfInBounds_toArray, List.set_cons_zero, List.set_cons_succ])) | (apply ord_skip rfl (by rfl) (by rfl) (fun _ => hBe); (try simp only [Act.put, List.setIfInBounds_toArray, List.set_cons_zero, List.set_cons_succ])))
          refine ord_do rfl (by rfl) (by rfl) (fun K hK => ?_)
          go_simp
          refine (((l01In_v false _ _ _ _ hv).mono fun _ _ h => Qt.re h)).mono ?_
          rintro e wd' ⟨rfl, hwd⟩
          replace hBe := hBe.trans (hwd.mono hBe.size)
          clear hwd
          refine hK.out _ _ (fun _ => hBe) ?_
          (try simp only [Act.put, List.setIfInBounds_toArray, List.set_cons_zero, List.set_cons_succ])
          clear hK K
          repeat (first | (apply ord_tk rfl (by rfl) (by rfl) (by rfl); (focus (intro wx hSw; have r0 := (hSw.cell (p := ⟨w.heap.size, 0, none⟩) hszW).trans q0; have r3 := (hSw.cell (p := ⟨b, off + k, none⟩) hbG).trans c1; go_simp; (try with_reducible rfl))); (try simp only [Act.put, List.setIfInBounds_toArray, List.set_cons_zero, List.set_cons_succ])) | (apply ord_skip rfl (by rfl) (by rfl) (fun _ => hBe); (try simp only [Act.put, List.setIfInBounds_toArray, List.set_cons_zero, List.set_cons_succ])))
          refine ord_nil ?_
          go_wp2
          go_ret
          exact ⟨by rw [hC.out]; rfl, hbW.trans (hBe.mono (Nat.le_of_lt hszW))⟩
      · obtain rfl : k = xs.length := by omega
        have hC := hide (show codeE os D vs xs = 0 by unfold codeE; rw [hm, if_pos rfl, if_pos]; exact allIn_t fun j hj => hP.out j hj)
        go_wp2
        go_ret
        exact ⟨by rw [hC.out]; rfl, hbW.trans (hBe.mono (Nat.le_of_lt hszW))⟩
end Go.Proofs.Ytneflhachjlmkaa
