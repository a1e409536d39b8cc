
/- The walks of l11Closed, isSubgroup, l11Code, subgroupCode. -/
import Derived.Test.YtlekbkjkkoefnaaDoorU2
import Derived.WalkLawsBesides
namespace Go.Proofs.YtlekbkjkkoefnaaDoor
open Go Go.RowKit Grp
set_option linter.unusedSimpArgs false
set_option linter.unusedVariables false

/-- Does a list hold 0 and all sums? -/
def clB (os xs : List Int) : Bool := hasB xs 0 && xs.all fun x => xs.all fun y => hasB xs (Ar os x y)
theorem all_f {p : Int → Bool} {xs : List Int} {k : Nat} (hk : k < xs.length) (h : p (gi xs k) = false) : xs.all p = false := by
  refine Bool.eq_false_iff.2 fun ha => ?_
  have := List.all_eq_true.1 ha _ (gi_mem hk)
  rw [h] at this; cases this
theorem all_t {p : Int → Bool} {xs : List Int} (h : ∀ k, k < xs.length → p (gi xs k) = true) : xs.all p = true := by
  refine List.all_eq_true.2 fun x hx => ?_
  obtain ⟨j, hj, rfl⟩ := List.getElem_of_mem hx
  rw [gi_ext hj]; exact h j hj
theorem clB_f0 {os xs : List Int} (h : hasB xs 0 = false) : clB os xs = false := by unfold clB; rw [h]; rfl
theorem clB_f {os xs : List Int} {i k : Nat} (hi : i < xs.length) (hk : k < xs.length) (h : hasB xs (Ar os (gi xs i) (gi xs k)) = false) : clB os xs = false := by
  unfold clB
  rw [all_f hi (all_f hk h), Bool.and_false]
theorem clB_t {os xs : List Int} (h0 : hasB xs 0 = true) (h : ∀ i k, i < xs.length → k < xs.length → hasB xs (Ar os (gi xs i) (gi xs k)) = true) : clB os xs = true := by
  unfold clB
  rw [h0, all_t fun i hi => all_t fun k hk => h i k hi hk]; rfl
theorem clB_all {os xs : List Int} (h : ∀ i k, i < xs.length → k < xs.length → hasB xs (Ar os (gi xs i) (gi xs k)) = true) : clB os xs = hasB xs 0 := by
  unfold clB
  rw [all_t fun i hi => all_t fun k hk => h i k hi hk, Bool.and_true]

set_option maxHeartbeats 2000000 in
theorem l11Closed_any (w : World) (A : Option Addr) (n c : Nat) (os : List Int) (D : Int) (A' : Option Addr) (n' c' : Nat) (L : Option Addr) (l lc : Nat) (xs : List Int)
    (h : Sl w w.heap.size A n c os) (hx : Sl w w.heap.size L l lc xs) (hG : OkG os) (hI : IsLst (prodL os) xs) :
    Calls Tryd.prog 66 #[.agg #[.slice A n c, .int .i64 D, .slice A' n' c'], .slice L l lc] w (Re w (.bool (clB os xs))) := by
  obtain rfl := hx.len
  have hp16 := hG.p16
  have hp2 := hG.ge
  have hl16 := hI.len (by omega)
  have HI := hide hI
  clear hI
  cases h0 : hasB xs 0 with
  | false =>
    have hF := hide (clB_f0 (os := os) h0)
    have hh := fun W B A n c h hn => l01Has_any W B A n c xs 0 h hn
    rw [h0] at hh
    clear h0
    go_enter Tryd.func66, Tryd.ntmps66
    go_wp2_with fail
    obtain ⟨W, hW⟩ : ∃ W, w.alloc (.cells #[.slice A n c, .int .i64 D, .slice A' n' c'] 28) = W := ⟨_, rfl⟩
    have hbW : Below w.heap.size w W := by rw [← hW]; exact (by repeat (first | assumption | exact Below.refl _ _ | apply below_drewN | apply Below.drew | apply Below.alloc | apply Below.setCell | omega | (focus (simp; done)) | (focus (simp; omega))))
    have hszW : w.heap.size < W.heap.size := by rw [← hW]; simp
    have hsW := hide (show W.heap.size = w.heap.size + 1 by rw [← hW]; simp)
    have bM : Blk W w.heap.size 28 #[.slice A n c, .int .i64 D, .slice A' n' c'] := by rw [← hW]; exact Blk.new _ _ _
    have q0 : W.cell? ⟨w.heap.size, 0, none⟩ = some (.slice A n c) := by rw [← hW]; exact (Blk.new _ _ _).cell 0
    have q1 : W.cell? ⟨w.heap.size, 1, none⟩ = some (.int .i64 D) := by rw [← hW]; exact (Blk.new _ _ _).cell 1
    have q2 : W.cell? ⟨w.heap.size, 2, none⟩ = some (.slice A' n' c') := by rw [← hW]; exact (Blk.new _ _ _).cell 2
    rw [hW]
    clear hW
    have hxs := hx.below hbW
    refine ((hh _ _ _ _ _ hxs (by omega)).mono fun _ _ h => Qt.re h).mono ?_
    rintro e w2 ⟨rfl, hb2⟩
    go_wp2
    go_ret
    exact ⟨by rw [hF.out]; rfl, hbW.trans (hb2.mono (Nat.le_of_lt hszW))⟩
  | true =>
    have H0 := hide h0
    have hh := fun W B A n c h hn => l01Has_any W B A n c xs 0 h hn
    rw [h0] at hh
    clear h0
    go_enter Tryd.func66, Tryd.ntmps66
    go_wp2_with fail
    obtain ⟨W, hW⟩ : ∃ W, w.alloc (.cells #[.slice A n c, .int .i64 D, .slice A' n' c'] 28) = W := ⟨_, rfl⟩
    have hbW : Below w.heap.size w W := by rw [← hW]; exact (by repeat (first | assumption | exact Below.refl _ _ | apply below_drewN | apply Below.drew | apply Below.alloc | apply Below.setCell | omega | (focus (simp; done)) | (focus (simp; omega))))
    have hszW : w.heap.size < W.heap.size := by rw [← hW]; simp
    have hsW := hide (show W.heap.size = w.heap.size + 1 by rw [← hW]; simp)
    have bM : Blk W w.heap.size 28 #[.slice A n c, .int .i64 D, .slice A' n' c'] := by rw [← hW]; exact Blk.new _ _ _
    have q0 : W.cell? ⟨w.heap.size, 0, none⟩ = some (.slice A n c) := by rw [← hW]; exact (Blk.new _ _ _).cell 0
    have q1 : W.cell? ⟨w.heap.size, 1, none⟩ = some (.int .i64 D) := by rw [← hW]; exact (Blk.new _ _ _).cell 1
    have q2 : W.cell? ⟨w.heap.size, 2, none⟩ = some (.slice A' n' c') := by rw [← hW]; exact (Blk.new _ _ _).cell 2
    rw [hW]
    clear hW
    have hs := h.below hbW
    have hxs := hx.below hbW
    refine ((hh _ _ _ _ _ hxs (by omega)).mono fun _ _ h => Qt.re h).mono ?_
    rintro e w2 ⟨rfl, hBe⟩
    replace hBe : Below W.heap.size W w2 := hBe
    go_wp2_with fail
    go_loopw [5] (fun i wr => ∃ k : Nat, k ≤ xs.length ∧ i = .int .i64 k ∧ (∀ i j, i < k → j < xs.length → hasB xs (Ar os (gi xs i) (gi xs j)) = true) ∧ Below W.heap.size W wr) (fun i _ => xs.length - (intOf i).toNat)
    case atStart => exact ⟨0, by omega, rfl, fun i j hi => absurd hi (by omega), hBe⟩
    case round =>
      clear hBe
      obtain ⟨i, hi, rfl, hpre, hBe⟩ := hrel
      have hP := hide hpre
      clear hpre
      by_cases hli : i < xs.length
      · obtain ⟨b, off, rfl, hb, hc⟩ := hxs.at_ (by omega)
        have c1 := hc i hli
        have hbG : b < W.heap.size := by omega
        have hcH := hide hc
        clear hc
        obtain ⟨vx0, vx1⟩ := HI.out.rng hli
        obtain ⟨vx, ex⟩ : ∃ v, gi xs i = v := ⟨_, rfl⟩
        rw [ex] at c1 vx0 vx1
        have hEX := hide ex
        clear ex
        go_wp2_with fail
        go_loopw [6] (fun j wr => ∃ k : Nat, k ≤ xs.length ∧ j = .int .i64 k ∧ (∀ j, j < k → hasB xs (Ar os (gi xs i) (gi xs j)) = true) ∧ Below W.heap.size W wr) (fun i _ => xs.length - (intOf i).toNat)
        case atStart => exact ⟨0, by omega, rfl, fun j hj => absurd hj (by omega), hBe⟩
        case round =>
          clear hBe
          obtain ⟨j, hj, rfl, hpre, hBe⟩ := hrel
          have hQ := hide hpre
          clear hpre
          by_cases hlj : j < xs.length
          · have c2 := hcH.out j hlj
            obtain ⟨vy0, vy1⟩ := HI.out.rng hlj
            obtain ⟨vy, ey⟩ : ∃ v, gi xs j = v := ⟨_, rfl⟩
            rw [ey] at c2 vy0 vy1
            have hEY := hide ey
            clear ey
            have i0 : 0 ≤ (i : Int) := by omega
            have i1 : (i : Int) < (xs.length : Int) := by omega
            have j0 : 0 ≤ (j : Int) := by omega
            have j1 : (j : Int) < (xs.length : Int) := by omega
            obtain ⟨s, es⟩ : ∃ s, Ar os vx vy = s := ⟨_, rfl⟩
            have hES := hide es
            have hAdd := fun W' B h => l10Add_any W' B A n c os vx vy h hG vx0 (by omega) vy0 (by omega)
            rw [es] at hAdd
            clear es
            have hHas := fun W' B h => l01Has_any W' B (some ⟨b, off, none⟩) xs.length lc xs s h (by omega)
            cases hv : hasB xs s with
            | true =>
              rw [hv] at hHas
              have hV := hide (show hasB xs (Ar os (gi xs i) (gi xs j)) = true by rw [hEX.out, hEY.out, hES.out]; exact hv)
              clear hv
              go_wp2
              refine wp_region_be [0, 1, 2, 3, 4, 5, 6, 7, 8, 9, 10, 11, 12, 13] 14 W.heap.size W (by kernel_rfl) (by kernel_rfl) (by kernel_rfl) (fun _ _ _ _ _ h => h) hBe (fun wd hBe => ?_)
              repeat (first | (apply ord_tk rfl (by rfl) (by rfl) (by rfl); (focus (intro wx hSw; have r0 := (hSw.cell (p := ⟨w.heap.size, 0, none⟩) hszW).trans q0; have r3 := (hSw.cell (p := ⟨b, off + i, none⟩) hbG).trans c1; have r4 := (hSw.cell (p := ⟨b, off + j, none⟩) hbG).trans c2; go_simp; (try with_reducible rfl))); (try simp only [Act.put, List.setIfInBounds_toArray, List.set_cons_zero, List.set_cons_succ])) | (apply ord_skip rfl (by rfl) (by rfl) (fun _ => hBe); (try simp only [Act.put, List.setIfInBounds_toArray, List.set_cons_zero, List.set_cons_succ])))
              refine ord_do rfl (by rfl) (by rfl) (fun K hK => ?_)
              go_simp
              refine (((hAdd _ _ (hs.below (hBe.mono (Nat.le_of_lt hszW)))).mono fun _ _ h => Qt.re h)).mono ?_
              rintro e wd' ⟨rfl, hwd⟩
              replace hBe := hBe.trans (hwd.mono hBe.size)
              clear hwd
              refine hK.out _ _ (fun _ => hBe) ?_
              (try simp only [Act.put, List.setIfInBounds_toArray, List.set_cons_zero, List.set_cons_succ])
              clear hK K
              repeat (first | (apply ord_tk rfl (by rfl) (by rfl) (by rfl); (focus (intro wx hSw; have r0 := (hSw.cell (p := ⟨w.heap.size, 0, none⟩) hszW).trans q0; have r3 := (hSw.cell (p := ⟨b, off + i, none⟩) hbG).trans c1; have r4 := (hSw.cell (p := ⟨b, off + j, none⟩) hbG).trans c2; go_simp; (try with_reducible rfl))); (try simp only [Act.put, List.setIfInBounds_toArray, List.set_cons_zero, List.set_cons_succ])) | (apply ord_skip rfl (by rfl) (by rfl) (fun _ => hBe); (try simp only [Act.put, List.setIfInBounds_toArray, List.set_cons_zero, List.set_cons_succ])))
              refine ord_do rfl (by rfl) (by rfl) (fun K hK => ?_)
              go_simp
              refine (((hHas _ _ (hxs.below (hBe.mono (Nat.le_of_lt hszW)))).mono fun _ _ h => Qt.re h)).mono ?_
              rintro e wd' ⟨rfl, hwd⟩
              replace hBe := hBe.trans (hwd.mono hBe.size)
              clear hwd
              refine hK.out _ _ (fun _ => hBe) ?_
              (try simp only [Act.put, List.setIfInBounds_toArray, List.set_cons_zero, List.set_cons_succ])
              clear hK K
              repeat (first | (apply ord_tk rfl (by rfl) (by rfl) (by rfl); (focus (intro wx hSw; have r0 := (hSw.cell (p := ⟨w.heap.size, 0, none⟩) hszW).trans q0; have r3 := (hSw.cell (p := ⟨b, off + i, none⟩) hbG).trans c1; have r4 := (hSw.cell (p := ⟨b, off + j, none⟩) hbG).trans c2; go_simp; (try with_reducible rfl))); (try simp only [Act.put, List.setIfInBounds_toArray, List.set_cons_zero, List.set_cons_succ])) | (apply ord_skip rfl (by rfl) (by rfl) (fun _ => hBe); (try simp only [Act.put, List.setIfInBounds_toArray, List.set_cons_zero, List.set_cons_succ])))
              refine ord_nil ?_
              go_wp2
              go_roundw
              case rel => exact ⟨j + 1, by omega, by go_num, fun t ht => by rcases Nat.lt_succ_iff_lt_or_eq.1 ht with h | rfl; exact hQ.out t h; exact hV.out, hBe⟩
              case measure => simp [intOf] <;> omega
            | false =>
              rw [hv] at hHas
              have hF := hide (clB_f (os := os) hli hlj (by rw [hEX.out, hEY.out, hES.out]; exact hv))
              clear hv
              go_wp2
              refine wp_region_be [0, 1, 2, 3, 4, 5, 6, 7, 8, 9, 10, 11, 12, 13] 14 W.heap.size W (by kernel_rfl) (by kernel_rfl) (by kernel_rfl) (fun _ _ _ _ _ h => h) hBe (fun wd hBe => ?_)
              repeat (first | (apply ord_tk rfl (by rfl) (by rfl) (by rfl); (focus (intro wx hSw; have r0 := (hSw.cell (p := ⟨w.heap.size, 0, none⟩) hszW).trans q0; have r3 := (hSw.cell (p := ⟨b, off + i, none⟩) hbG).trans c1; have r4 := (hSw.cell (p := ⟨b, off + j, none⟩) hbG).trans c2; go_simp; (try with_reducible rfl))); (try simp only [Act.put, List.setIfInBounds_toArray, List.set_cons_zero, List.set_cons_succ])) | (apply ord_skip rfl (by rfl) (by rfl) (fun _ => hBe); (try simp only [Act.put, List.setIfInBounds_toArray, List.set_cons_zero, List.set_cons_succ])))
              refine ord_do rfl (by rfl) (by rfl) (fun K hK => ?_)
              go_simp
              refine (((hAdd _ _ (hs.below (hBe.mono (Nat.le_of_lt hszW)))).mono fun _ _ h => Qt.re h)).mono ?_
              rintro e wd' ⟨rfl, hwd⟩
              replace hBe := hBe.trans (hwd.mono hBe.size)
              clear hwd
              refine hK.out _ _ (fun _ => hBe) ?_
              (try simp only [Act.put, List.setIfInBounds_toArray, List.set_cons_zero, List.set_cons_succ])
              clear hK K
              repeat (first | (apply ord_tk rfl (by rfl) (by rfl) (by rfl); (focus (intro wx hSw; have r0 := (hSw.cell (p := ⟨w.heap.size, 0, none⟩) hszW).trans q0; have r3 := (hSw.cell (p := ⟨b, off + i, none⟩) hbG).trans c1; have r4 := (hSw.cell (p := ⟨b, off + j, none⟩) hbG).trans c2; go_simp; (try with_reducible rfl))); (try simp only [Act.put, List.setIfInBounds_toArray, List.set_cons_zero, List.set_cons_succ])) | (apply ord_skip rfl (by rfl) (by rfl) (fun _ => hBe); (try simp only [Act.put, List.setIfInBounds_toArray, List.set_cons_zero, List.set_cons_succ])))
              refine ord_do rfl (by rfl) (by rfl) (fun K hK => ?_)
              go_simp
              refine (((hHas _ _ (hxs.below (hBe.mono (Nat.le_of_lt hszW)))).mono fun _ _ h => Qt.re h)).mono ?_
              rintro e wd' ⟨rfl, hwd⟩
              replace hBe := hBe.trans (hwd.mono hBe.size)
              clear hwd
              refine hK.out _ _ (fun _ => hBe) ?_
              (try simp only [Act.put, List.setIfInBounds_toArray, List.set_cons_zero, List.set_cons_succ])
              clear hK K
              repeat (first | (apply ord_tk rfl (by rfl) (by rfl) (by rfl); (focus (intro wx hSw; have r0 := (hSw.cell (p := ⟨w.heap.size, 0, none⟩) hszW).trans q0; have r3 := (hSw.cell (p := ⟨b, off + i, none⟩) hbG).trans c1; have r4 := (hSw.cell (p := ⟨b, off + j, none⟩) hbG).trans c2; go_simp; (try with_reducible rfl))); (try simp only [Act.put, List.setIfInBounds_toArray, List.set_cons_zero, List.set_cons_succ])) | (apply ord_skip rfl (by rfl) (by rfl) (fun _ => hBe); (try simp only [Act.put, List.setIfInBounds_toArray, List.set_cons_zero, List.set_cons_succ])))
              refine ord_nil ?_
              go_wp2
              go_ret
              exact ⟨by rw [hF.out]; rfl, hbW.trans (hBe.mono (Nat.le_of_lt hszW))⟩
          · obtain rfl : j = xs.length := by omega
            go_wp2
            go_roundw
            case rel => exact ⟨i + 1, by omega, by go_num, fun t u ht hu => by rcases Nat.lt_succ_iff_lt_or_eq.1 ht with h | rfl; exact hP.out t u h hu; exact hQ.out u hu, hBe⟩
            case measure => simp [intOf] <;> omega
      · obtain rfl : i = xs.length := by omega
        have hT := hide (clB_t (os := os) H0.out fun i k hi hk => hP.out i k hi hk)
        go_wp2
        go_ret
        exact ⟨by rw [hT.out]; rfl, hbW.trans (hBe.mono (Nat.le_of_lt hszW))⟩
end Go.Proofs.YtlekbkjkkoefnaaDoor
