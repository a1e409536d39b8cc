
/- The walks of l11List, listCode, l11Closed, isSubgroup, l11Code, subgroupCode: lists of elements, subgroups. -/
import Derived.Test.YtneflhachjlmkaaEa
import Derived.WalkLawsBesides
namespace Go.Proofs.Ytneflhachjlmkaa
open Go Go.RowKit Grp
set_option linter.unusedSimpArgs false
set_option linter.unusedVariables false

/-- A strictly increasing list of numbers from 0 to N - 1: element j fits. -/
def goodAt (N : Int) (xs : List Int) (j : Nat) : Prop := inB (gi xs j) 0 (N - 1) = true ∧ (0 < j → gi xs (j - 1) < gi xs j)
def IsLst (N : Int) (xs : List Int) : Prop := ∀ j, j < xs.length → goodAt N xs j
open Classical in
noncomputable def lstB (N : Int) (xs : List Int) : Bool := decide (IsLst N xs)
theorem lstB_t {N : Int} {xs : List Int} (h : IsLst N xs) : lstB N xs = true := by simp [lstB, h]
theorem lstB_f {N : Int} {xs : List Int} (h : ¬ IsLst N xs) : lstB N xs = false := by simp [lstB, h]
theorem lstB_iff {N : Int} {xs : List Int} : lstB N xs = true ↔ IsLst N xs := by simp [lstB]
theorem IsLst.rng {N : Int} {xs : List Int} (h : IsLst N xs) {j : Nat} (hj : j < xs.length) : 0 ≤ gi xs j ∧ gi xs j < N := by
  have := (h j hj).1
  simp only [inB, decide_eq_true_eq] at this
  omega
theorem IsLst.mem {N : Int} {xs : List Int} (h : IsLst N xs) : ∀ x ∈ xs, 0 ≤ x ∧ x < N := by
  intro x hx
  obtain ⟨j, hj, rfl⟩ := List.getElem_of_mem hx
  rw [gi_ext hj]; exact h.rng hj
theorem IsLst.le {N : Int} {xs : List Int} (h : IsLst N xs) {j : Nat} (hj : j < xs.length) : (j : Int) ≤ gi xs j := by
  induction j with
  | zero => exact (h.rng hj).1
  | succ j ih =>
    have h1 := ih (by omega)
    have h2 := (h (j + 1) hj).2 (by omega)
    simp only [Nat.add_sub_cancel] at h2
    omega
theorem IsLst.len {N : Int} {xs : List Int} (h : IsLst N xs) (hN : 0 ≤ N) : (xs.length : Int) ≤ N := by
  rcases Nat.eq_zero_or_pos xs.length with h0 | h0
  · omega
  · have h1 := h.le (j := xs.length - 1) (by omega)
    have h2 := h.rng (j := xs.length - 1) (by omega)
    omega
noncomputable def codeL (os : List Int) (D : Int) (vs xs : List Int) : Int := if isM os D vs = true then if lstB (prodL os) xs = true then 0 else 2 else 1
theorem codeL_0 {os vs xs : List Int} {D : Int} (h : codeL os D vs xs = 0) : IsM os D vs ∧ IsLst (prodL os) xs := by
  unfold codeL at h
  split at h
  · rename_i h1
    split at h
    · rename_i h2; exact ⟨isM_iff.1 h1, lstB_iff.1 h2⟩
    · omega
  · omega

set_option maxHeartbeats 2000000 in
theorem l11List_any (w : World) (A : Option Addr) (n c : Nat) (os : List Int) (D : Int) (A' : Option Addr) (n' c' : Nat) (vs : List Int) (L : Option Addr) (l lc : Nat) (xs : List Int)
    (h : Sl w w.heap.size A n c os) (h' : Sl w w.heap.size A' n' c' vs) (hx : Sl w w.heap.size L l lc xs) (hn : n ≤ 1048576) (hn' : n' ≤ 1048576) (hl : l ≤ 1048576) :
    Calls Try.prog 81 #[.agg #[.slice A n c, .int .i64 D, .slice A' n' c'], .slice L l lc] w (Re w (.int .i64 (codeL os D vs xs))) := by
  obtain rfl := h'.len
  obtain rfl := hx.len
  cases hm : isM os D vs with
  | false =>
    have hC := hide (show codeL os D vs xs = 1 by unfold codeL; rw [hm]; rfl)
    go_enter Try.func81, Try.ntmps81
    go_wp2_with fail
    obtain ⟨W, hW⟩ : ∃ W, w.alloc (.cells #[.slice A n c, .int .i64 D, .slice A' vs.length c'] 28) = W := ⟨_, rfl⟩
    have hbW : Below w.heap.size w W := by rw [← hW]; exact (by repeat (first | assumption | exact Below.refl _ _ | apply below_drewN | apply Below.drew | apply Below.alloc | apply Below.setCell | omega | (focus (simp; done)) | (focus (simp; omega))))
    have hszW : w.heap.size < W.heap.size := by rw [← hW]; simp
    have hsW := hide (show W.heap.size = w.heap.size + 1 by rw [← hW]; simp)
    have bM : Blk W w.heap.size 28 #[.slice A n c, .int .i64 D, .slice A' vs.length c'] := by rw [← hW]; exact Blk.new _ _ _
    have q0 : W.cell? ⟨w.heap.size, 0, none⟩ = some (.slice A n c) := by rw [← hW]; exact (Blk.new _ _ _).cell 0
    have q1 : W.cell? ⟨w.heap.size, 1, none⟩ = some (.int .i64 D) := by rw [← hW]; exact (Blk.new _ _ _).cell 1
    have q2 : W.cell? ⟨w.heap.size, 2, none⟩ = some (.slice A' vs.length c') := by rw [← hW]; exact (Blk.new _ _ _).cell 2
    rw [hW]
    clear hW
    have hs := (h.below hbW).more (Nat.le_of_lt hszW)
    have hs' := (h'.below hbW).more (Nat.le_of_lt hszW)
    go_wp2_with fail
    refine (l10Is_v false _ _ _ _ _ _ _ _ _ _ hs hs' hn hn' hm).mono ?_
    rintro e w2 ⟨rfl, hb2⟩
    go_wp2
    go_ret
    exact ⟨by rw [hC.out]; rfl, hbW.trans (hb2.mono (Nat.le_of_lt hszW))⟩
  | true =>
    have hM := isM_iff.1 hm
    have hG := hM.ok.g
    have hp16 := hG.p16
    have hp2 := hG.ge
    obtain ⟨N, hN⟩ : ∃ N, prodL os = N := ⟨_, rfl⟩
    have hcode : codeL os D vs xs = if lstB N xs = true then 0 else 2 := by unfold codeL; rw [hm, hN]; rfl
    have hHC := hide hcode
    clear hcode
    have hw : IntKind.i64.wrap (N - 1) = N - 1 := wrap_in (by omega) (by omega)
    go_enter Try.func81, Try.ntmps81
    go_wp2_with fail
    obtain ⟨W, hW⟩ : ∃ W, w.alloc (.cells #[.slice A n c, .int .i64 D, .slice A' vs.length c'] 28) = W := ⟨_, rfl⟩
    have hbW : Below w.heap.size w W := by rw [← hW]; exact (by repeat (first | assumption | exact Below.refl _ _ | apply below_drewN | apply Below.drew | apply Below.alloc | apply Below.setCell | omega | (focus (simp; done)) | (focus (simp; omega))))
    have hszW : w.heap.size < W.heap.size := by rw [← hW]; simp
    have hsW := hide (show W.heap.size = w.heap.size + 1 by rw [← hW]; simp)
    have bM : Blk W w.heap.size 28 #[.slice A n c, .int .i64 D, .slice A' vs.length c'] := by rw [← hW]; exact Blk.new _ _ _
    have q0 : W.cell? ⟨w.heap.size, 0, none⟩ = some (.slice A n c) := by rw [← hW]; exact (Blk.new _ _ _).cell 0
    have q1 : W.cell? ⟨w.heap.size, 1, none⟩ = some (.int .i64 D) := by rw [← hW]; exact (Blk.new _ _ _).cell 1
    have q2 : W.cell? ⟨w.heap.size, 2, none⟩ = some (.slice A' vs.length c') := by rw [← hW]; exact (Blk.new _ _ _).cell 2
    rw [hW]
    clear hW
    have hs := (h.below hbW).more (Nat.le_of_lt hszW)
    have hs' := (h'.below hbW).more (Nat.le_of_lt hszW)
    have hxs := (hx.below hbW)
    go_wp2_with fail
    refine (l10Is_v true _ _ _ _ _ _ _ _ _ _ hs hs' hn hn' hm).mono ?_
    rintro e w2 ⟨rfl, hBe⟩
    replace hBe : Below W.heap.size W w2 := hBe
    go_wp2_with fail
    go_loopw [5] (fun i wr => ∃ k : Nat, k ≤ xs.length ∧ i = .int .i64 k ∧ (∀ j, j < k → goodAt N xs j) ∧ Below W.heap.size W wr) (fun i _ => xs.length - (intOf i).toNat)
    case atStart => exact ⟨0, by omega, rfl, fun j hj => absurd hj (by omega), hBe⟩
    case round =>
      clear hBe
      obtain ⟨k, hk, rfl, hpre, hBe⟩ := hrel
      have hP := hide hpre
      clear hpre
      by_cases hlt : k < xs.length
      · obtain ⟨b, off, rfl, hb, hc⟩ := hxs.at_ (by omega)
        have c1 := hc k hlt
        have hbG : b < W.heap.size := by omega
        have hcH := hide hc
        clear hc
        have i0 : 0 ≤ (k : Int) := by omega
        have i1 : (k : Int) < (xs.length : Int) := by omega
        cases hv : inB (gi xs k) 0 (N - 1) with
        | false =>
          have hC := hide (show codeL os D vs xs = 2 by rw [hHC.out, if_neg]; rw [lstB_f fun hh => by rw [(hh k hlt).1] at hv; cases hv]; exact Bool.false_ne_true)
          obtain ⟨v, ev⟩ : ∃ v, gi xs k = v := ⟨_, rfl⟩
          rw [ev] at c1 hv
          clear ev
          go_wp2
          refine wp_region_be [0, 1, 2, 3, 4, 5, 6, 7, 8, 9, 10, 11, 12, 13, 14, 15, 16, 17, 18, 19, 20, 21, 22, 23, 24, 25] 26 W.heap.size W (by kernel_rfl) (by kernel_rfl) (by kernel_rfl) (fun _ _ _ _ _ h => h) hBe (fun wd hBe => ?_)
          repeat (first | (apply ord_tk rfl (by rfl) (by rfl) (by rfl); (focus (intro wx hSw; have r0 := (hSw.cell (p := ⟨w.heap.size, 0, none⟩) hszW).trans q0; have r3 := (hSw.cell (p := ⟨b, off + k, none⟩) hbG).trans c1; go_simp; (try with_reducible rfl))); (try simp only [Act.put, List.setIfInBounds_toArray, List.set_cons_zero, List.set_cons_succ])) | (apply ord_skip rfl (by rfl) (by rfl) (fun _ => hBe); (try simp only [Act.put, List.setIfInBounds_toArray, List.set_cons_zero, List.set_cons_succ])))
          refine ord_do rfl (by rfl) (by rfl) (fun K hK => ?_)
          go_simp
          refine (((l10Size_any _ _ _ _ _ _ (hs.below hBe) hG).mono fun _ _ h => Qt.re h)).mono ?_
          rintro e wd' ⟨rfl, hwd⟩
          replace hBe := hBe.trans (hwd.mono hBe.size)
          clear hwd
          refine hK.out _ _ (fun _ => hBe) ?_
          (try simp only [Act.put, List.setIfInBounds_toArray, List.set_cons_zero, List.set_cons_succ])
          clear hK K
          rw [hN]
          repeat (first | (apply ord_tk rfl (by rfl) (by rfl) (by rfl); (focus (intro wx hSw; have r0 := (hSw.cell (p := ⟨w.heap.size, 0, none⟩) hszW).trans q0; have r3 := (hSw.cell (p := ⟨b, off + k, none⟩) hbG).trans c1; go_simp; (try with_reducible rfl))); (try simp only [Act.put, List.setIfInBounds_toArray, List.set_cons_zero, List.set_cons_succ])) | (apply ord_skip rfl (by rfl) (by rfl) (fun _ => hBe); (try simp only [Act.put, List.setIfInBounds_toArray, List.set_cons_zero, List.set_cons_succ])))
          refine ord_do rfl (by rfl) (by rfl) (fun K hK => ?_)
          go_simp
          refine (((l01In_v false _ _ _ _ hv).mono fun _ _ h => Qt.re h)).mono ?_
          rintro e wd' ⟨rfl, hwd⟩
          replace hBe := hBe.trans (hwd.mono hBe.size)
          clear hwd
          refine hK.out _ _ (fun _ => hBe) ?_
          (try simp only [Act.put, List.setIfInBounds_toArray, List.set_cons_zero, List.set_cons_succ])
          clear hK K
          repeat (first | (apply ord_tk rfl (by rfl) (by rfl) (by rfl); (focus (intro wx hSw; have r0 := (hSw.cell (p := ⟨w.heap.size, 0, none⟩) hszW).trans q0; have r3 := (hSw.cell (p := ⟨b, off + k, none⟩) hbG).trans c1; go_simp; (try with_reducible rfl))); (try simp only [Act.put, List.setIfInBounds_toArray, List.set_cons_zero, List.set_cons_succ])) | (apply ord_skip rfl (by rfl) (by rfl) (fun _ => hBe); (try simp only [Act.put, List.setIfInBounds_toArray, List.set_cons_zero, List.set_cons_succ])))
          refine ord_nil ?_
          go_wp2
          go_ret
          exact ⟨by rw [hC.out]; rfl, hbW.trans (hBe.mono (Nat.le_of_lt hszW))⟩
        | true =>
          have hV0 := hide hv
          obtain ⟨v, ev⟩ : ∃ v, gi xs k = v := ⟨_, rfl⟩
          have hEV := hide ev
          rw [ev] at c1 hv
          clear ev
          rcases Nat.eq_zero_or_pos k with hk0 | hk0
          · have hgo := hide (show goodAt N xs k from ⟨hV0.out, fun h => absurd h (by omega)⟩)
            have z1 : ¬ 0 < k := by omega
            have z2 : ¬ (0 : Int) < (k : Int) := by omega
            have hk0' := hide hk0
            clear hk0
            go_wp2
            refine wp_region_be [0, 1, 2, 3, 4, 5, 6, 7, 8, 9, 10, 11, 12, 13, 14, 15, 16, 17, 18, 19, 20, 21, 22, 23, 24, 25] 26 W.heap.size W (by kernel_rfl) (by kernel_rfl) (by kernel_rfl) (fun _ _ _ _ _ h => h) hBe (fun wd hBe => ?_)
            repeat (first | (apply ord_tk rfl (by rfl) (by rfl) (by rfl); (focus (intro wx hSw; have r0 := (hSw.cell (p := ⟨w.heap.size, 0, none⟩) hszW).trans q0; have r3 := (hSw.cell (p := ⟨b, off + k, none⟩) hbG).trans c1; go_simp; (try with_reducible rfl))); (try simp only [Act.put, List.setIfInBounds_toArray, List.set_cons_zero, List.set_cons_succ])) | (apply ord_skip rfl (by rfl) (by rfl) (fun _ => hBe); (try simp only [Act.put, List.setIfInBounds_toArray, List.set_cons_zero, List.set_cons_succ])))
            refine ord_do rfl (by rfl) (by rfl) (fun K hK => ?_)
            go_simp
            refine (((l10Size_any _ _ _ _ _ _ (hs.below hBe) hG).mono fun _ _ h => Qt.re h)).mono ?_
            rintro e wd' ⟨rfl, hwd⟩
            replace hBe := hBe.trans (hwd.mono hBe.size)
            clear hwd
            refine hK.out _ _ (fun _ => hBe) ?_
            (try simp only [Act.put, List.setIfInBounds_toArray, List.set_cons_zero, List.set_cons_succ])
            clear hK K
            rw [hN]
            repeat (first | (apply ord_tk rfl (by rfl) (by rfl) (by rfl); (focus (intro wx hSw; have r0 := (hSw.cell (p := ⟨w.heap.size, 0, none⟩) hszW).trans q0; have r3 := (hSw.cell (p := ⟨b, off + k, none⟩) hbG).trans c1; go_simp; (try with_reducible rfl))); (try simp only [Act.put, List.setIfInBounds_toArray, List.set_cons_zero, List.set_cons_succ])) | (apply ord_skip rfl (by rfl) (by rfl) (fun _ => hBe); (try simp only [Act.put, List.setIfInBounds_toArray, List.set_cons_zero, List.set_cons_succ])))
            refine ord_do rfl (by rfl) (by rfl) (fun K hK => ?_)
            go_simp
            refine (((l01In_v true _ _ _ _ hv).mono fun _ _ h => Qt.re h)).mono ?_
            rintro e wd' ⟨rfl, hwd⟩
            replace hBe := hBe.trans (hwd.mono hBe.size)
            clear hwd
            refine hK.out _ _ (fun _ => hBe) ?_
            (try simp only [Act.put, List.setIfInBounds_toArray, List.set_cons_zero, List.set_cons_succ])
            clear hK K
            repeat (first | (apply ord_tk rfl (by rfl) (by rfl) (by rfl); (focus (intro wx hSw; have r0 := (hSw.cell (p := ⟨w.heap.size, 0, none⟩) hszW).trans q0; have r3 := (hSw.cell (p := ⟨b, off + k, none⟩) hbG).trans c1; go_simp; (try with_reducible rfl))); (try simp only [Act.put, List.setIfInBounds_toArray, List.set_cons_zero, List.set_cons_succ])) | (apply ord_skip rfl (by rfl) (by rfl) (fun _ => hBe); (try simp only [Act.put, List.setIfInBounds_toArray, List.set_cons_zero, List.set_cons_succ])))
            refine ord_nil ?_
            go_wp2
            go_roundw
            case rel => exact ⟨k + 1, by omega, by go_num, fun j hj => by rcases Nat.lt_succ_iff_lt_or_eq.1 hj with h | rfl; exact hP.out j h; exact hgo.out, hBe⟩
            case measure => simp [intOf] <;> omega
          · obtain ⟨j, hkj⟩ : ∃ j, k = j + 1 := ⟨k - 1, by omega⟩
            have hKJ := hide hkj
            have c2 := hcH.out j (by omega)
            obtain ⟨u, eu⟩ : ∃ u, gi xs j = u := ⟨_, rfl⟩
            have hEU := hide eu
            rw [eu] at c2
            clear eu
            have ej : IntKind.i64.wrap ((k : Int) - 1) = (j : Int) := by rw [show (k : Int) - 1 = j by omega]; exact wrap_in (by omega) (by omega)
            have ej2 : IntKind.i64.wrap (j : Int) = j := wrap_in (by omega) (by omega)
            have i2 : (j : Int) < (xs.length : Int) := by omega
            have i3 : 0 ≤ (j : Int) := by omega
            have i4 : (0 : Int) < (k : Int) := by omega
            have ek : (k : Int) - 1 = (j : Int) := by omega
            clear hkj
            by_cases hle : v ≤ u
            · have hC := hide (show codeL os D vs xs = 2 by
                rw [hHC.out, if_neg]
                rw [lstB_f fun hh => by have := (hh k hlt).2 hk0; rw [show k - 1 = j by have := hKJ.out; omega, hEV.out, hEU.out] at this; omega]
                exact Bool.false_ne_true)
              go_wp2
              refine wp_region_be [0, 1, 2, 3, 4, 5, 6, 7, 8, 9, 10, 11, 12, 13, 14, 15, 16, 17, 18, 19, 20, 21, 22, 23, 24, 25] 26 W.heap.size W (by kernel_rfl) (by kernel_rfl) (by kernel_rfl) (fun _ _ _ _ _ h => h) hBe (fun wd hBe => ?_)
              repeat (first | (apply ord_tk rfl (by rfl) (by rfl) (by rfl); (focus (intro wx hSw; have r0 := (hSw.cell (p := ⟨w.heap.size, 0, none⟩) hszW).trans q0; have r3 := (hSw.cell (p := ⟨b, off + k, none⟩) hbG).trans c1; have r4 := (hSw.cell (p := ⟨b, off + j, none⟩) hbG).trans c2; go_simp; (try with_reducible rfl))); (try simp only [Act.put, List.setIfInBounds_toArray, List.set_cons_zero, List.set_cons_succ])) | (apply ord_skip rfl (by rfl) (by rfl) (fun _ => hBe); (try simp only [Act.put, List.setIfInBounds_toArray, List.set_cons_zero, List.set_cons_succ])))
              refine ord_do rfl (by rfl) (by rfl) (fun K hK => ?_)
              go_simp
              refine (((l10Size_any _ _ _ _ _ _ (hs.below hBe) hG).mono fun _ _ h => Qt.re h)).mono ?_
              rintro e wd' ⟨rfl, hwd⟩
              replace hBe := hBe.trans (hwd.mono hBe.size)
              clear hwd
              refine hK.out _ _ (fun _ => hBe) ?_
              (try simp only [Act.put, List.setIfInBounds_toArray, List.set_cons_zero, List.set_cons_succ])
              clear hK K
              rw [hN]
              repeat (first | (apply ord_tk rfl (by rfl) (by rfl) (by rfl); (focus (intro wx hSw; have r0 := (hSw.cell (p := ⟨w.heap.size, 0, none⟩) hszW).trans q0; have r3 := (hSw.cell (p := ⟨b, off + k, none⟩) hbG).trans c1; have r4 := (hSw.cell (p := ⟨b, off + j, none⟩) hbG).trans c2; go_simp; (try with_reducible rfl))); (try simp only [Act.put, List.setIfInBounds_toArray, List.set_cons_zero, List.set_cons_succ])) | (apply ord_skip rfl (by rfl) (by rfl) (fun _ => hBe); (try simp only [Act.put, List.setIfInBounds_toArray, List.set_cons_zero, List.set_cons_succ])))
              refine ord_do rfl (by rfl) (by rfl) (fun K hK => ?_)
              go_simp
              refine (((l01In_v true _ _ _ _ hv).mono fun _ _ h => Qt.re h)).mono ?_
              rintro e wd' ⟨rfl, hwd⟩
              replace hBe := hBe.trans (hwd.mono hBe.size)
              clear hwd
              refine hK.out _ _ (fun _ => hBe) ?_
              (try simp only [Act.put, List.setIfInBounds_toArray, List.set_cons_zero, List.set_cons_succ])
              clear hK K
              repeat (first | (apply ord_tk rfl (by rfl) (by rfl) (by rfl); (focus (intro wx hSw; have r0 := (hSw.cell (p := ⟨w.heap.size, 0, none⟩) hszW).trans q0; have r3 := (hSw.cell (p := ⟨b, off + k, none⟩) hbG).trans c1; have r4 := (hSw.cell (p := ⟨b, off + j, none⟩) hbG).trans c2; go_simp; (try with_reducible rfl))); (try simp only [Act.put, List.setIfInBounds_toArray, List.set_cons_zero, List.set_cons_succ])) | (apply ord_skip rfl (by rfl) (by rfl) (fun _ => hBe); (try simp only [Act.put, List.setIfInBounds_toArray, List.set_cons_zero, List.set_cons_succ])))
              refine ord_nil ?_
              go_wp2
              go_ret
              exact ⟨by rw [hC.out]; rfl, hbW.trans (hBe.mono (Nat.le_of_lt hszW))⟩
            · have hgo := hide (show goodAt N xs k from ⟨hV0.out, fun _ => by rw [show k - 1 = j by have := hKJ.out; omega, hEV.out, hEU.out]; omega⟩)
              go_wp2
              refine wp_region_be [0, 1, 2, 3, 4, 5, 6, 7, 8, 9, 10, 11, 12, 13, 14, 15, 16, 17, 18, 19, 20, 21, 22, 23, 24, 25] 26 W.heap.size W (by kernel_rfl) (by kernel_rfl) (by kernel_rfl) (fun _ _ _ _ _ h => h) hBe (fun wd hBe => ?_)
              repeat (first | (apply ord_tk rfl (by rfl) (by rfl) (by rfl); (focus (intro wx hSw; have r0 := (hSw.cell (p := ⟨w.heap.size, 0, none⟩) hszW).trans q0; have r3 := (hSw.cell (p := ⟨b, off + k, none⟩) hbG).trans c1; have r4 := (hSw.cell (p := ⟨b, off + j, none⟩) hbG).trans c2; go_simp; (try with_reducible rfl))); (try simp only [Act.put, List.setIfInBounds_toArray, List.set_cons_zero, List.set_cons_succ])) | (apply ord_skip rfl (by rfl) (by rfl) (fun _ => hBe); (try simp only [Act.put, List.setIfInBounds_toArray, List.set_cons_zero, List.set_cons_succ])))
              refine ord_do rfl (by rfl) (by rfl) (fun K hK => ?_)
              go_simp
              refine (((l10Size_any _ _ _ _ _ _ (hs.below hBe) hG).mono fun _ _ h => Qt.re h)).mono ?_
              rintro e wd' ⟨rfl, hwd⟩
              replace hBe := hBe.trans (hwd.mono hBe.size)
              clear hwd
              refine hK.out _ _ (fun _ => hBe) ?_
              (try simp only [Act.put, List.setIfInBounds_toArray, List.set_cons_zero, List.set_cons_succ])
              clear hK K
              rw [hN]
              repeat (first | (apply ord_tk rfl (by rfl) (by rfl) (by rfl); (focus (intro wx hSw; have r0 := (hSw.cell (p := ⟨w.heap.size, 0, none⟩) hszW).trans q0; have r3 := (hSw.cell (p := ⟨b, off + k, none⟩) hbG).trans c1; have r4 := (hSw.cell (p := ⟨b, off + j, none⟩) hbG).trans c2; go_simp; (try with_reducible rfl))); (try simp only [Act.put, List.setIfInBounds_toArray, List.set_cons_zero, List.set_cons_succ])) | (apply ord_skip rfl (by rfl) (by rfl) (fun _ => hBe); (try simp only [Act.put, List.setIfInBounds_toArray, List.set_cons_zero, List.set_cons_succ])))
              refine ord_do rfl (by rfl) (by rfl) (fun K hK => ?_)
              go_simp
              refine (((l01In_v true _ _ _ _ hv).mono fun _ _ h => Qt.re h)).mono ?_
              rintro e wd' ⟨rfl, hwd⟩
              replace hBe := hBe.trans (hwd.mono hBe.size)
              clear hwd
              refine hK.out _ _ (fun _ => hBe) ?_
              (try simp only [Act.put, List.setIfInBounds_toArray, List.set_cons_zero, List.set_cons_succ])
              clear hK K
              repeat (first | (apply ord_tk rfl (by rfl) (by rfl) (by rfl); (focus (intro wx hSw; have r0 := (hSw.cell (p := ⟨w.heap.size, 0, none⟩) hszW).trans q0; have r3 := (hSw.cell (p := ⟨b, off + k, none⟩) hbG).trans c1; have r4 := (hSw.cell (p := ⟨b, off + j, none⟩) hbG).trans c2; go_simp; (try with_reducible rfl))); (try simp only [Act.put, List.setIfInBounds_toArray, List.set_cons_zero, List.set_cons_succ])) | (apply ord_skip rfl (by rfl) (by rfl) (fun _ => hBe); (try simp only [Act.put, List.setIfInBounds_toArray, List.set_cons_zero, List.set_cons_succ])))
              refine ord_nil ?_
              go_wp2
              go_roundw
              case rel => exact ⟨k + 1, by omega, by go_num, fun i hi => by rcases Nat.lt_succ_iff_lt_or_eq.1 hi with h | rfl; exact hP.out i h; exact hgo.out, hBe⟩
              case measure => simp [intOf] <;> omega
      · obtain rfl : k = xs.length := by omega
        have hC := hide (show codeL os D vs xs = 0 by rw [hHC.out, if_pos]; exact lstB_t fun j hj => hP.out j hj)
        go_wp2
        go_ret
        exact ⟨by rw [hC.out]; rfl, hbW.trans (hBe.mono (Nat.le_of_lt hszW))⟩

set_option maxHeartbeats 2000000 in
theorem listCode_any (w : World) (A : Option Addr) (n c : Nat) (os : List Int) (D : Int) (A' : Option Addr) (n' c' : Nat) (vs : List Int) (L : Option Addr) (l lc : Nat) (xs : List Int)
    (h : Sl w w.heap.size A n c os) (h' : Sl w w.heap.size A' n' c' vs) (hx : Sl w w.heap.size L l lc xs) (hn : n ≤ 1048576) (hn' : n' ≤ 1048576) (hl : l ≤ 1048576) :
    Calls Try.prog 84 #[.agg #[.slice A n c, .int .i64 D, .slice A' n' c'], .slice L l lc] w (Re w (.int .i64 (codeL os D vs xs))) := by
  obtain rfl := h'.len
  obtain rfl := hx.len
  cases hm : isM os D vs with
  | false =>
    have hC := hide (show codeL os D vs xs = 1 by unfold codeL; rw [hm]; rfl)
    go_enter Try.func84, Try.ntmps84
    go_wp2_with fail
    obtain ⟨W, hW⟩ : ∃ W, w.alloc (.cells #[.slice A n c, .int .i64 D, .slice A' vs.length c'] 28) = W := ⟨_, rfl⟩
    have hbW : Below w.heap.size w W := by rw [← hW]; exact (by repeat (first | assumption | exact Below.refl _ _ | apply below_drewN | apply Below.drew | apply Below.alloc | apply Below.setCell | omega | (focus (simp; done)) | (focus (simp; omega))))
    have hszW : w.heap.size < W.heap.size := by rw [← hW]; simp
    have hsW := hide (show W.heap.size = w.heap.size + 1 by rw [← hW]; simp)
    have bM : Blk W w.heap.size 28 #[.slice A n c, .int .i64 D, .slice A' vs.length c'] := by rw [← hW]; exact Blk.new _ _ _
    have q0 : W.cell? ⟨w.heap.size, 0, none⟩ = some (.slice A n c) := by rw [← hW]; exact (Blk.new _ _ _).cell 0
    have q1 : W.cell? ⟨w.heap.size, 1, none⟩ = some (.int .i64 D) := by rw [← hW]; exact (Blk.new _ _ _).cell 1
    have q2 : W.cell? ⟨w.heap.size, 2, none⟩ = some (.slice A' vs.length c') := by rw [← hW]; exact (Blk.new _ _ _).cell 2
    rw [hW]
    clear hW
    have hs := (h.below hbW).more (Nat.le_of_lt hszW)
    have hs' := (h'.below hbW).more (Nat.le_of_lt hszW)
    go_wp2_with fail
    refine (implIs_v false _ _ _ _ _ _ _ _ _ _ hs hs' hn hn' hm).mono ?_
    rintro e w2 ⟨rfl, hb2⟩
    go_wp2
    go_ret
    exact ⟨by rw [hC.out]; rfl, hbW.trans (hb2.mono (Nat.le_of_lt hszW))⟩
  | true =>
    have hM := isM_iff.1 hm
    have hG := hM.ok.g
    have hp16 := hG.p16
    have hp2 := hG.ge
    have hLN := hM.ok.len
    have hn16 := hM.ok.lt
    have hcode : codeL os D vs xs = if lstB (vs.length : Int) xs = true then 0 else 2 := by unfold codeL; rw [hm, ← hLN]; rfl
    have hHC := hide hcode
    have hHL := hide hLN
    clear hcode hLN
    have hw : IntKind.i64.wrap ((vs.length : Int) - 1) = (vs.length : Int) - 1 := wrap_in (by omega) (by omega)
    go_enter Try.func84, Try.ntmps84
    go_wp2_with fail
    obtain ⟨W, hW⟩ : ∃ W, w.alloc (.cells #[.slice A n c, .int .i64 D, .slice A' vs.length c'] 28) = W := ⟨_, rfl⟩
    have hbW : Below w.heap.size w W := by rw [← hW]; exact (by repeat (first | assumption | exact Below.refl _ _ | apply below_drewN | apply Below.drew | apply Below.alloc | apply Below.setCell | omega | (focus (simp; done)) | (focus (simp; omega))))
    have hszW : w.heap.size < W.heap.size := by rw [← hW]; simp
    have hsW := hide (show W.heap.size = w.heap.size + 1 by rw [← hW]; simp)
    have bM : Blk W w.heap.size 28 #[.slice A n c, .int .i64 D, .slice A' vs.length c'] := by rw [← hW]; exact Blk.new _ _ _
    have q0 : W.cell? ⟨w.heap.size, 0, none⟩ = some (.slice A n c) := by rw [← hW]; exact (Blk.new _ _ _).cell 0
    have q1 : W.cell? ⟨w.heap.size, 1, none⟩ = some (.int .i64 D) := by rw [← hW]; exact (Blk.new _ _ _).cell 1
    have q2 : W.cell? ⟨w.heap.size, 2, none⟩ = some (.slice A' vs.length c') := by rw [← hW]; exact (Blk.new _ _ _).cell 2
    rw [hW]
    clear hW
    have hs := (h.below hbW).more (Nat.le_of_lt hszW)
    have hs' := (h'.below hbW).more (Nat.le_of_lt hszW)
    have hxs := (hx.below hbW)
    go_wp2_with fail
    refine (implIs_v true _ _ _ _ _ _ _ _ _ _ hs hs' hn hn' hm).mono ?_
    rintro e w2 ⟨rfl, hBe⟩
    replace hBe : Below W.heap.size W w2 := hBe
    go_wp2_with fail
    go_loopw [12] (fun i wr => ∃ k : Nat, k ≤ xs.length ∧ i = .int .i64 k ∧ (∀ j, j < k → goodAt (vs.length : Int) xs j) ∧ Below W.heap.size W wr) (fun i _ => xs.length - (intOf i).toNat)
    case atStart => exact ⟨0, by omega, rfl, fun j hj => absurd hj (by omega), hBe⟩
    case round =>
      clear hBe
      obtain ⟨k, hk, rfl, hpre, hBe⟩ := hrel
      have hP := hide hpre
      clear hpre
      by_cases hlt : k < xs.length
      · obtain ⟨b, off, rfl, hb, hc⟩ := hxs.at_ (by omega)
        have c1 := hc k hlt
        have hbG : b < W.heap.size := by omega
        have hcH := hide hc
        clear hc
        have r0 := (hBe.cell (p := ⟨w.heap.size, 0, none⟩) hszW).trans q0
        have r1 := (hBe.cell (p := ⟨w.heap.size, 1, none⟩) hszW).trans q1
        have r2 := (hBe.cell (p := ⟨w.heap.size, 2, none⟩) hszW).trans q2
        cases hv : inB (gi xs k) 0 ((vs.length : Int) - 1) with
        | false =>
          have hC := hide (show codeL os D vs xs = 2 by rw [hHC.out, if_neg]; rw [lstB_f fun hh => by rw [(hh k hlt).1] at hv; cases hv]; exact Bool.false_ne_true)
          obtain ⟨v, ev⟩ : ∃ v, gi xs k = v := ⟨_, rfl⟩
          rw [ev] at c1 hv
          clear ev
          have r3 := (hBe.cell (p := ⟨b, off + k, none⟩) hbG).trans c1
          go_wp2_with fail
          clear r0 r1 r2 r3
          refine (size_any _ _ _ _ _ _).mono ?_
          rintro e w3 ⟨rfl, hb3⟩
          replace hBe := hBe.trans (hb3.mono hBe.size)
          clear hb3
          go_wp2_with fail
          refine ((within_v false _ _ _ _ hv).mono fun _ _ h => Qt.re h).mono ?_
          rintro e w4 ⟨rfl, hb4⟩
          replace hBe := hBe.trans (hb4.mono hBe.size)
          clear hb4
          go_wp2
          go_ret
          exact ⟨by rw [hC.out]; rfl, hbW.trans (hBe.mono (Nat.le_of_lt hszW))⟩
        | true =>
          have hV0 := hide hv
          obtain ⟨v, ev⟩ : ∃ v, gi xs k = v := ⟨_, rfl⟩
          have hEV := hide ev
          rw [ev] at c1 hv
          clear ev
          have r3 := (hBe.cell (p := ⟨b, off + k, none⟩) hbG).trans c1
          rcases Nat.eq_zero_or_pos k with hk0 | hk0
          · have hgo := hide (show goodAt (vs.length : Int) xs k from ⟨hV0.out, fun h => absurd h (by omega)⟩)
            have z1 : ¬ 0 < k := by omega
            have z2 : ¬ (0 : Int) < (k : Int) := by omega
            have hk0' := hide hk0
            clear hk0
            go_wp2_with fail
            clear r0 r1 r2 r3
            refine (size_any _ _ _ _ _ _).mono ?_
            rintro e w3 ⟨rfl, hb3⟩
            replace hBe := hBe.trans (hb3.mono hBe.size)
            clear hb3
            go_wp2_with fail
            refine ((within_v true _ _ _ _ hv).mono fun _ _ h => Qt.re h).mono ?_
            rintro e w4 ⟨rfl, hb4⟩
            replace hBe := hBe.trans (hb4.mono hBe.size)
            clear hb4
            go_wp2
            go_roundw
            case rel => exact ⟨k + 1, by omega, by go_num, fun j hj => by rcases Nat.lt_succ_iff_lt_or_eq.1 hj with h | rfl; exact hP.out j h; exact hgo.out, hBe⟩
            case measure => simp [intOf] <;> omega
          · obtain ⟨j, hkj⟩ : ∃ j, k = j + 1 := ⟨k - 1, by omega⟩
            have hKJ := hide hkj
            have c2 := hcH.out j (by omega)
            obtain ⟨u, eu⟩ : ∃ u, gi xs j = u := ⟨_, rfl⟩
            have hEU := hide eu
            rw [eu] at c2
            clear eu
            have i2 : (j : Int) < (xs.length : Int) := by omega
            have i3 : 0 ≤ (j : Int) := by omega
            have i4 : (0 : Int) < (k : Int) := by omega
            have ek : (k : Int) - 1 = (j : Int) := by omega
            clear hkj
            by_cases hle : v ≤ u
            · have hC := hide (show codeL os D vs xs = 2 by
                rw [hHC.out, if_neg]
                rw [lstB_f fun hh => by have := (hh k hlt).2 hk0; rw [show k - 1 = j by have := hKJ.out; omega, hEV.out, hEU.out] at this; omega]
                exact Bool.false_ne_true)
              go_wp2_with fail
              clear r0 r1 r2 r3
              refine (size_any _ _ _ _ _ _).mono ?_
              rintro e w3 ⟨rfl, hb3⟩
              replace hBe := hBe.trans (hb3.mono hBe.size)
              clear hb3
              go_wp2_with fail
              refine ((within_v true _ _ _ _ hv).mono fun _ _ h => Qt.re h).mono ?_
              rintro e w4 ⟨rfl, hb4⟩
              replace hBe := hBe.trans (hb4.mono hBe.size)
              clear hb4
              have r4 := (hBe.cell (p := ⟨b, off + j, none⟩) hbG).trans c2
              go_wp2
              go_ret
              exact ⟨by rw [hC.out]; rfl, hbW.trans (hBe.mono (Nat.le_of_lt hszW))⟩
            · have hgo := hide (show goodAt (vs.length : Int) xs k from ⟨hV0.out, fun _ => by rw [show k - 1 = j by have := hKJ.out; omega, hEV.out, hEU.out]; omega⟩)
              go_wp2_with fail
              clear r0 r1 r2 r3
              refine (size_any _ _ _ _ _ _).mono ?_
              rintro e w3 ⟨rfl, hb3⟩
              replace hBe := hBe.trans (hb3.mono hBe.size)
              clear hb3
              go_wp2_with fail
              refine ((within_v true _ _ _ _ hv).mono fun _ _ h => Qt.re h).mono ?_
              rintro e w4 ⟨rfl, hb4⟩
              replace hBe := hBe.trans (hb4.mono hBe.size)
              clear hb4
              have r4 := (hBe.cell (p := ⟨b, off + j, none⟩) hbG).trans c2
              go_wp2
              go_roundw
              case rel => exact ⟨k + 1, by omega, by go_num, fun i hi => by rcases Nat.lt_succ_iff_lt_or_eq.1 hi with h | rfl; exact hP.out i h; exact hgo.out, hBe⟩
              case measure => simp [intOf] <;> omega
      · obtain rfl : k = xs.length := by omega
        have hC := hide (show codeL os D vs xs = 0 by rw [hHC.out, if_pos]; exact lstB_t fun j hj => hP.out j hj)
        go_wp2
        go_ret
        exact ⟨by rw [hC.out]; rfl, hbW.trans (hBe.mono (Nat.le_of_lt hszW))⟩
end Go.Proofs.Ytneflhachjlmkaa
