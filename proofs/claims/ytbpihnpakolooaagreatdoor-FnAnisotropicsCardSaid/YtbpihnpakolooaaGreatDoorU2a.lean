
/- The walks of l11List, listCode, l11Closed, isSubgroup, l11Code, subgroupCode: lists of elements, subgroups. The walks of l11Closed, isSubgroup, l11Code, subgroupCode. The walks of l11Code, subgroupCode, l11Isotropic, isIsotropic, l11Orthogonal, orthogonal. -/
import Derived.Test.YtbpihnpakolooaaGreatDoorEa
import Derived.WalkLawsBesides
namespace Go.Proofs.YtbpihnpakolooaaGreatDoor
open Go Go.RowKit Grp
set_option linter.unusedSimpArgs false
set_option linter.unusedVariables false

def goodAt (N : Int) (xs : List Int) (j : Nat) : Prop := inB (gi xs j) 0 (N - 1) = true ∧ (0 < j → gi xs (j - 1) < gi xs j)
def IsLst (N : Int) (xs : List Int) : Prop := ∀ j, j < xs.length → goodAt N xs j
open Classical in
noncomputable def lstB (N : Int) (xs : List Int) : Bool := decide (IsLst N xs)
theorem lstB_t {N : Int} {xs : List Int} (h : IsLst N xs) : lstB N xs = true := by simp [lstB, h]
theorem lstB_f {N : Int} {xs : List Int} (h : ¬ IsLst N xs) : lstB N xs = false := by simp [lstB, h]
theorem lstB_iff {N : Int} {xs : List Int} : lstB N xs = true ↔ IsLst N xs := by simp [lstB]
theorem IsLst.rng {N : Int} {xs : List Int} (h : IsLst N xs) {j : Nat} (hj : j < xs.length) : 0 ≤ gi xs j ∧ gi xs j < N := by
 have := (h j hj).1
 simp only [inB, decide_eq_true_eq] at this
 omega
theorem IsLst.mem {N : Int} {xs : List Int} (h : IsLst N xs) : ∀ x ∈ xs, 0 ≤ x ∧ x < N := by
 intro x hx
 obtain ⟨j, hj, rfl⟩ := List.getElem_of_mem hx
 rw [gi_ext hj]; exact h.rng hj
theorem IsLst.le {N : Int} {xs : List Int} (h : IsLst N xs) {j : Nat} (hj : j < xs.length) : (j : Int) ≤ gi xs j := by
 induction j with
 | zero => exact (h.rng hj).1
 | succ j ih =>
  have h1 := ih (by omega)
  have h2 := (h (j + 1) hj).2 (by omega)
  simp only [Nat.add_sub_cancel] at h2
  omega
theorem IsLst.len {N : Int} {xs : List Int} (h : IsLst N xs) (hN : 0 ≤ N) : (xs.length : Int) ≤ N := by
 rcases Nat.eq_zero_or_pos xs.length with h0 | h0
 ·omega
 ·have h1 := h.le (j := xs.length - 1) (by omega)
  have h2 := h.rng (j := xs.length - 1) (by omega)
  omega
noncomputable def codeL (os : List Int) (D : Int) (vs xs : List Int) : Int := if isM os D vs = true then if lstB (prodL os) xs = true then 0 else 2 else 1
theorem codeL_0 {os vs xs : List Int} {D : Int} (h : codeL os D vs xs = 0) : IsM os D vs ∧ IsLst (prodL os) xs := by
 unfold codeL at h
 split at h
 ·rename_i h1
  split at h
  ·rename_i h2; exact ⟨isM_iff.1 h1, lstB_iff.1 h2⟩
  ·omega
 ·omega


set_option maxHeartbeats 2000000 in
theorem listCode_any (w : World) (A : Option Addr) (n c : Nat) (os : List Int) (D : Int) (A' : Option Addr) (n' c' : Nat) (vs : List Int) (L : Option Addr) (l lc : Nat) (xs : List Int)
  (h : Sl w w.heap.size A n c os) (h' : Sl w w.heap.size A' n' c' vs) (hx : Sl w w.heap.size L l lc xs) (hn : n ≤ 1048576) (hn' : n' ≤ 1048576) (hl : l ≤ 1048576) :
  Calls Tryz.prog 82 #[.agg #[.slice A n c, .int .i64 D, .slice A' n' c'], .slice L l lc] w (Re w (.int .i64 (codeL os D vs xs))) := by
 obtain rfl := h'.len
 obtain rfl := hx.len
 cases hm : isM os D vs with
 | false =>
  have hC := hide (show codeL os D vs xs = 1 by unfold codeL; rw [hm]; rfl)
  go_enter Tryz.func82, Tryz.ntmps82
  go_wp2_with fail
  obtain ⟨W, hW⟩ : ∃ W, w.alloc (.cells #[.slice A n c, .int .i64 D, .slice A' vs.length c'] 26) = W := ⟨_, rfl⟩
  have hbW : Below w.heap.size w W := by rw [← hW]; exact (by repeat (first | assumption | exact Below.refl _ _ | apply below_drewN | apply Below.drew | apply Below.alloc | apply Below.setCell | omega | (focus (simp; done)) | (focus (simp; omega))))
  have hszW : w.heap.size < W.heap.size := by rw [← hW]; simp
  have hsW := hide (show W.heap.size = w.heap.size + 1 by rw [← hW]; simp)
  have bM : Blk W w.heap.size 26 #[.slice A n c, .int .i64 D, .slice A' vs.length c'] := by rw [← hW]; exact Blk.new _ _ _
  have q0 : W.cell? ⟨w.heap.size, 0, none⟩ = some (.slice A n c) := by rw [← hW]; exact (Blk.new _ _ _).cell 0
  have q1 : W.cell? ⟨w.heap.size, 1, none⟩ = some (.int .i64 D) := by rw [← hW]; exact (Blk.new _ _ _).cell 1
  have q2 : W.cell? ⟨w.heap.size, 2, none⟩ = some (.slice A' vs.length c') := by rw [← hW]; exact (Blk.new _ _ _).cell 2
  rw [hW]
  clear hW
  have hs := (h.below hbW).more (Nat.le_of_lt hszW)
  have hs' := (h'.below hbW).more (Nat.le_of_lt hszW)
  go_wp2_with fail
  refine (implIs_v false _ _ _ _ _ _ _ _ _ _ hs hs' hn hn' hm).mono ?_
  rintro e w2 ⟨rfl, hb2⟩
  go_wp2
  go_ret
  exact ⟨by rw [hC.out]; rfl, hbW.trans (hb2.mono (Nat.le_of_lt hszW))⟩
 | true =>
  have hM := isM_iff.1 hm
  have hG := hM.ok.g
  have hp16 := hG.p16
  have hp2 := hG.ge
  have hLN := hM.ok.len
  have hn16 := hM.ok.lt
  have hcode : codeL os D vs xs = if lstB (vs.length : Int) xs = true then 0 else 2 := by unfold codeL; rw [hm, ← hLN]; rfl
  have hHC := hide hcode
  have hHL := hide hLN
  clear hcode hLN
  have hw : IntKind.i64.wrap ((vs.length : Int) - 1) = (vs.length : Int) - 1 := wrap_in (by omega) (by omega)
  go_enter Tryz.func82, Tryz.ntmps82
  go_wp2_with fail
  obtain ⟨W, hW⟩ : ∃ W, w.alloc (.cells #[.slice A n c, .int .i64 D, .slice A' vs.length c'] 26) = W := ⟨_, rfl⟩
  have hbW : Below w.heap.size w W := by rw [← hW]; exact (by repeat (first | assumption | exact Below.refl _ _ | apply below_drewN | apply Below.drew | apply Below.alloc | apply Below.setCell | omega | (focus (simp; done)) | (focus (simp; omega))))
  have hszW : w.heap.size < W.heap.size := by rw [← hW]; simp
  have hsW := hide (show W.heap.size = w.heap.size + 1 by rw [← hW]; simp)
  have bM : Blk W w.heap.size 26 #[.slice A n c, .int .i64 D, .slice A' vs.length c'] := by rw [← hW]; exact Blk.new _ _ _
  have q0 : W.cell? ⟨w.heap.size, 0, none⟩ = some (.slice A n c) := by rw [← hW]; exact (Blk.new _ _ _).cell 0
  have q1 : W.cell? ⟨w.heap.size, 1, none⟩ = some (.int .i64 D) := by rw [← hW]; exact (Blk.new _ _ _).cell 1
  have q2 : W.cell? ⟨w.heap.size, 2, none⟩ = some (.slice A' vs.length c') := by rw [← hW]; exact (Blk.new _ _ _).cell 2
  rw [hW]
  clear hW
  have hs := (h.below hbW).more (Nat.le_of_lt hszW)
  have hs' := (h'.below hbW).more (Nat.le_of_lt hszW)
  have hxs := (hx.below hbW)
  go_wp2_with fail
  refine (implIs_v true _ _ _ _ _ _ _ _ _ _ hs hs' hn hn' hm).mono ?_
  rintro e w2 ⟨rfl, hBe⟩
  replace hBe : Below W.heap.size W w2 := hBe
  go_wp2_with fail
  go_loopw [12] (fun i wr => ∃ k : Nat, k ≤ xs.length ∧ i = .int .i64 k ∧ (∀ j, j < k → goodAt (vs.length : Int) xs j) ∧ Below W.heap.size W wr) (fun i _ => xs.length - (intOf i).toNat)
  case atStart => exact ⟨0, by omega, rfl, fun j hj => absurd hj (by omega), hBe⟩
  case round =>
   clear hBe
   obtain ⟨k, hk, rfl, hpre, hBe⟩ := hrel
   have hP := hide hpre
   clear hpre
   by_cases hlt : k < xs.length
   ·obtain ⟨b, off, rfl, hb, hc⟩ := hxs.at_ (by omega)
    have c1 := hc k hlt
    have hbG : b < W.heap.size := by omega
    have hcH := hide hc
    clear hc
    have r0 := (hBe.cell (p := ⟨w.heap.size, 0, none⟩) hszW).trans q0
    have r1 := (hBe.cell (p := ⟨w.heap.size, 1, none⟩) hszW).trans q1
    have r2 := (hBe.cell (p := ⟨w.heap.size, 2, none⟩) hszW).trans q2
    cases hv : inB (gi xs k) 0 ((vs.length : Int) - 1) with
    | false =>
     have hC := hide (show codeL os D vs xs = 2 by rw [hHC.out, if_neg]; rw [lstB_f fun hh => by rw [(hh k hlt).1] at hv; cases hv]; exact Bool.false_ne_true)
     obtain ⟨v, ev⟩ : ∃ v, gi xs k = v := ⟨_, rfl⟩
     rw [ev] at c1 hv
     clear ev
     have r3 := (hBe.cell (p := ⟨b, off + k, none⟩) hbG).trans c1
     go_wp2_with fail
     clear r0 r1 r2 r3
     refine (size_any _ _ _ _ _ _).mono ?_
     rintro e w3 ⟨rfl, hb3⟩
     replace hBe := hBe.trans (hb3.mono hBe.size)
     clear hb3
     go_wp2_with fail
     refine ((within_v false _ _ _ _ hv).mono fun _ _ h => Qt.re h).mono ?_
     rintro e w4 ⟨rfl, hb4⟩
     replace hBe := hBe.trans (hb4.mono hBe.size)
     clear hb4
     go_wp2
     go_ret
     exact ⟨by rw [hC.out]; rfl, hbW.trans (hBe.mono (Nat.le_of_lt hszW))⟩
    | true =>
     have hV0 := hide hv
     obtain ⟨v, ev⟩ : ∃ v, gi xs k = v := ⟨_, rfl⟩
     have hEV := hide ev
     rw [ev] at c1 hv
     clear ev
     have r3 := (hBe.cell (p := ⟨b, off + k, none⟩) hbG).trans c1
     rcases Nat.eq_zero_or_pos k with hk0 | hk0
     ·have hgo := hide (show goodAt (vs.length : Int) xs k from ⟨hV0.out, fun h => absurd h (by omega)⟩)
      have z1 : ¬ 0 < k := by omega
      have z2 : ¬ (0 : Int) < (k : Int) := by omega
      have hk0' := hide hk0
      clear hk0
      go_wp2_with fail
      clear r0 r1 r2 r3
      refine (size_any _ _ _ _ _ _).mono ?_
      rintro e w3 ⟨rfl, hb3⟩
      replace hBe := hBe.trans (hb3.mono hBe.size)
      clear hb3
      go_wp2_with fail
      refine ((within_v true _ _ _ _ hv).mono fun _ _ h => Qt.re h).mono ?_
      rintro e w4 ⟨rfl, hb4⟩
      replace hBe := hBe.trans (hb4.mono hBe.size)
      clear hb4
      go_wp2
      go_roundw
      case rel => exact ⟨k + 1, by omega, by go_num, fun j hj => by rcases Nat.lt_succ_iff_lt_or_eq.1 hj with h | rfl; exact hP.out j h; exact hgo.out, hBe⟩
      case measure => simp [intOf] <;> omega
     ·obtain ⟨j, hkj⟩ : ∃ j, k = j + 1 := ⟨k - 1, by omega⟩
      have hKJ := hide hkj
      have c2 := hcH.out j (by omega)
      obtain ⟨u, eu⟩ : ∃ u, gi xs j = u := ⟨_, rfl⟩
      have hEU := hide eu
      rw [eu] at c2
      clear eu
      have i2 : (j : Int) < (xs.length : Int) := by omega
      have i3 : 0 ≤ (j : Int) := by omega
      have i4 : (0 : Int) < (k : Int) := by omega
      have ek : (k : Int) - 1 = (j : Int) := by omega
      clear hkj
      by_cases hle : v ≤ u
      ·have hC := hide (show codeL os D vs xs = 2 by
        rw [hHC.out, if_neg]
        rw [lstB_f fun hh => by have := (hh k hlt).2 hk0; rw [show k - 1 = j by have := hKJ.out; omega, hEV.out, hEU.out] at this; omega]
        exact Bool.false_ne_true)
       go_wp2_with fail
       clear r0 r1 r2 r3
       refine (size_any _ _ _ _ _ _).mono ?_
       rintro e w3 ⟨rfl, hb3⟩
       replace hBe := hBe.trans (hb3.mono hBe.size)
       clear hb3
       go_wp2_with fail
       refine ((within_v true _ _ _ _ hv).mono fun _ _ h => Qt.re h).mono ?_
       rintro e w4 ⟨rfl, hb4⟩
       replace hBe := hBe.trans (hb4.mono hBe.size)
       clear hb4
       have r4 := (hBe.cell (p := ⟨b, off + j, none⟩) hbG).trans c2
       go_wp2
       go_ret
       exact ⟨by rw [hC.out]; rfl, hbW.trans (hBe.mono (Nat.le_of_lt hszW))⟩
      ·have hgo := hide (show goodAt (vs.length : Int) xs k from ⟨hV0.out, fun _ => by rw [show k - 1 = j by have := hKJ.out; omega, hEV.out, hEU.out]; omega⟩)
       go_wp2_with fail
       clear r0 r1 r2 r3
       refine (size_any _ _ _ _ _ _).mono ?_
       rintro e w3 ⟨rfl, hb3⟩
       replace hBe := hBe.trans (hb3.mono hBe.size)
       clear hb3
       go_wp2_with fail
       refine ((within_v true _ _ _ _ hv).mono fun _ _ h => Qt.re h).mono ?_
       rintro e w4 ⟨rfl, hb4⟩
       replace hBe := hBe.trans (hb4.mono hBe.size)
       clear hb4
       have r4 := (hBe.cell (p := ⟨b, off + j, none⟩) hbG).trans c2
       go_wp2
       go_roundw
       case rel => exact ⟨k + 1, by omega, by go_num, fun i hi => by rcases Nat.lt_succ_iff_lt_or_eq.1 hi with h | rfl; exact hP.out i h; exact hgo.out, hBe⟩
       case measure => simp [intOf] <;> omega
   ·obtain rfl : k = xs.length := by omega
    have hC := hide (show codeL os D vs xs = 0 by rw [hHC.out, if_pos]; exact lstB_t fun j hj => hP.out j hj)
    go_wp2
    go_ret
    exact ⟨by rw [hC.out]; rfl, hbW.trans (hBe.mono (Nat.le_of_lt hszW))⟩

def clB (os xs : List Int) : Bool := hasB xs 0 && xs.all fun x => xs.all fun y => hasB xs (Ar os x y)
theorem all_f {p : Int → Bool} {xs : List Int} {k : Nat} (hk : k < xs.length) (h : p (gi xs k) = false) : xs.all p = false := by
 refine Bool.eq_false_iff.2 fun ha => ?_
 have := List.all_eq_true.1 ha _ (gi_mem hk)
 rw [h] at this; cases this
theorem all_t {p : Int → Bool} {xs : List Int} (h : ∀ k, k < xs.length → p (gi xs k) = true) : xs.all p = true := by
 refine List.all_eq_true.2 fun x hx => ?_
 obtain ⟨j, hj, rfl⟩ := List.getElem_of_mem hx
 rw [gi_ext hj]; exact h j hj
theorem clB_f0 {os xs : List Int} (h : hasB xs 0 = false) : clB os xs = false := by unfold clB; rw [h]; rfl
theorem clB_f {os xs : List Int} {i k : Nat} (hi : i < xs.length) (hk : k < xs.length) (h : hasB xs (Ar os (gi xs i) (gi xs k)) = false) : clB os xs = false := by
 unfold clB
 rw [all_f hi (all_f hk h), Bool.and_false]
theorem clB_t {os xs : List Int} (h0 : hasB xs 0 = true) (h : ∀ i k, i < xs.length → k < xs.length → hasB xs (Ar os (gi xs i) (gi xs k)) = true) : clB os xs = true := by
 unfold clB
 rw [h0, all_t fun i hi => all_t fun k hk => h i k hi hk]; rfl
theorem clB_all {os xs : List Int} (h : ∀ i k, i < xs.length → k < xs.length → hasB xs (Ar os (gi xs i) (gi xs k)) = true) : clB os xs = hasB xs 0 := by
 unfold clB
 rw [all_t fun i hi => all_t fun k hk => h i k hi hk, Bool.and_true]

set_option maxHeartbeats 2000000 in
theorem l11Closed_any (w : World) (A : Option Addr) (n c : Nat) (os : List Int) (D : Int) (A' : Option Addr) (n' c' : Nat) (L : Option Addr) (l lc : Nat) (xs : List Int)
  (h : Sl w w.heap.size A n c os) (hx : Sl w w.heap.size L l lc xs) (hG : OkG os) (hI : IsLst (prodL os) xs) :
  Calls Tryz.prog 85 #[.agg #[.slice A n c, .int .i64 D, .slice A' n' c'], .slice L l lc] w (Re w (.bool (clB os xs))) := by
 obtain rfl := hx.len
 have hp16 := hG.p16
 have hp2 := hG.ge
 have hl16 := hI.len (by omega)
 have HI := hide hI
 clear hI
 cases h0 : hasB xs 0 with
 | false =>
  have hF := hide (clB_f0 (os := os) h0)
  have hh := fun W B A n c h hn => l01Has_any W B A n c xs 0 h hn
  rw [h0] at hh
  clear h0
  go_enter Tryz.func85, Tryz.ntmps85
  go_wp2_with fail
  obtain ⟨W, hW⟩ : ∃ W, w.alloc (.cells #[.slice A n c, .int .i64 D, .slice A' n' c'] 26) = W := ⟨_, rfl⟩
  have hbW : Below w.heap.size w W := by rw [← hW]; exact (by repeat (first | assumption | exact Below.refl _ _ | apply below_drewN | apply Below.drew | apply Below.alloc | apply Below.setCell | omega | (focus (simp; done)) | (focus (simp; omega))))
  have hszW : w.heap.size < W.heap.size := by rw [← hW]; simp
  have hsW := hide (show W.heap.size = w.heap.size + 1 by rw [← hW]; simp)
  have bM : Blk W w.heap.size 26 #[.slice A n c, .int .i64 D, .slice A' n' c'] := by rw [← hW]; exact Blk.new _ _ _
  have q0 : W.cell? ⟨w.heap.size, 0, none⟩ = some (.slice A n c) := by rw [← hW]; exact (Blk.new _ _ _).cell 0
  have q1 : W.cell? ⟨w.heap.size, 1, none⟩ = some (.int .i64 D) := by rw [← hW]; exact (Blk.new _ _ _).cell 1
  have q2 : W.cell? ⟨w.heap.size, 2, none⟩ = some (.slice A' n' c') := by rw [← hW]; exact (Blk.new _ _ _).cell 2
  rw [hW]
  clear hW
  have hxs := hx.below hbW
  refine ((hh _ _ _ _ _ hxs (by omega)).mono fun _ _ h => Qt.re h).mono ?_
  rintro e w2 ⟨rfl, hb2⟩
  go_wp2
  go_ret
  exact ⟨by rw [hF.out]; rfl, hbW.trans (hb2.mono (Nat.le_of_lt hszW))⟩
 | true =>
  have H0 := hide h0
  have hh := fun W B A n c h hn => l01Has_any W B A n c xs 0 h hn
  rw [h0] at hh
  clear h0
  go_enter Tryz.func85, Tryz.ntmps85
  go_wp2_with fail
  obtain ⟨W, hW⟩ : ∃ W, w.alloc (.cells #[.slice A n c, .int .i64 D, .slice A' n' c'] 26) = W := ⟨_, rfl⟩
  have hbW : Below w.heap.size w W := by rw [← hW]; exact (by repeat (first | assumption | exact Below.refl _ _ | apply below_drewN | apply Below.drew | apply Below.alloc | apply Below.setCell | omega | (focus (simp; done)) | (focus (simp; omega))))
  have hszW : w.heap.size < W.heap.size := by rw [← hW]; simp
  have hsW := hide (show W.heap.size = w.heap.size + 1 by rw [← hW]; simp)
  have bM : Blk W w.heap.size 26 #[.slice A n c, .int .i64 D, .slice A' n' c'] := by rw [← hW]; exact Blk.new _ _ _
  have q0 : W.cell? ⟨w.heap.size, 0, none⟩ = some (.slice A n c) := by rw [← hW]; exact (Blk.new _ _ _).cell 0
  have q1 : W.cell? ⟨w.heap.size, 1, none⟩ = some (.int .i64 D) := by rw [← hW]; exact (Blk.new _ _ _).cell 1
  have q2 : W.cell? ⟨w.heap.size, 2, none⟩ = some (.slice A' n' c') := by rw [← hW]; exact (Blk.new _ _ _).cell 2
  rw [hW]
  clear hW
  have hs := h.below hbW
  have hxs := hx.below hbW
  refine ((hh _ _ _ _ _ hxs (by omega)).mono fun _ _ h => Qt.re h).mono ?_
  rintro e w2 ⟨rfl, hBe⟩
  replace hBe : Below W.heap.size W w2 := hBe
  go_wp2_with fail
  go_loopw [5] (fun i wr => ∃ k : Nat, k ≤ xs.length ∧ i = .int .i64 k ∧ (∀ i j, i < k → j < xs.length → hasB xs (Ar os (gi xs i) (gi xs j)) = true) ∧ Below W.heap.size W wr) (fun i _ => xs.length - (intOf i).toNat)
  case atStart => exact ⟨0, by omega, rfl, fun i j hi => absurd hi (by omega), hBe⟩
  case round =>
   clear hBe
   obtain ⟨i, hi, rfl, hpre, hBe⟩ := hrel
   have hP := hide hpre
   clear hpre
   by_cases hli : i < xs.length
   ·obtain ⟨b, off, rfl, hb, hc⟩ := hxs.at_ (by omega)
    have c1 := hc i hli
    have hbG : b < W.heap.size := by omega
    have hcH := hide hc
    clear hc
    obtain ⟨vx0, vx1⟩ := HI.out.rng hli
    obtain ⟨vx, ex⟩ : ∃ v, gi xs i = v := ⟨_, rfl⟩
    rw [ex] at c1 vx0 vx1
    have hEX := hide ex
    clear ex
    go_wp2_with fail
    go_loopw [6] (fun j wr => ∃ k : Nat, k ≤ xs.length ∧ j = .int .i64 k ∧ (∀ j, j < k → hasB xs (Ar os (gi xs i) (gi xs j)) = true) ∧ Below W.heap.size W wr) (fun i _ => xs.length - (intOf i).toNat)
    case atStart => exact ⟨0, by omega, rfl, fun j hj => absurd hj (by omega), hBe⟩
    case round =>
     clear hBe
     obtain ⟨j, hj, rfl, hpre, hBe⟩ := hrel
     have hQ := hide hpre
     clear hpre
     by_cases hlj : j < xs.length
     ·have c2 := hcH.out j hlj
      obtain ⟨vy0, vy1⟩ := HI.out.rng hlj
      obtain ⟨vy, ey⟩ : ∃ v, gi xs j = v := ⟨_, rfl⟩
      rw [ey] at c2 vy0 vy1
      have hEY := hide ey
      clear ey
      have i0 : 0 ≤ (i : Int) := by omega
      have i1 : (i : Int) < (xs.length : Int) := by omega
      have j0 : 0 ≤ (j : Int) := by omega
      have j1 : (j : Int) < (xs.length : Int) := by omega
      obtain ⟨s, es⟩ : ∃ s, Ar os vx vy = s := ⟨_, rfl⟩
      have hES := hide es
      have hAdd := fun W' B h => l10Add_any W' B A n c os vx vy h hG vx0 (by omega) vy0 (by omega)
      rw [es] at hAdd
      clear es
      have hHas := fun W' B h => l01Has_any W' B (some ⟨b, off, none⟩) xs.length lc xs s h (by omega)
      cases hv : hasB xs s with
      | true =>
       rw [hv] at hHas
       have hV := hide (show hasB xs (Ar os (gi xs i) (gi xs j)) = true by rw [hEX.out, hEY.out, hES.out]; exact hv)
       clear hv
       go_wp2
       refine wp_region_be [0, 1, 2, 3, 4, 5, 6, 7, 8, 9, 10, 11, 12, 13] 14 W.heap.size W (by kernel_rfl) (by kernel_rfl) (by kernel_rfl) (fun _ _ _ _ _ h => h) hBe (fun wd hBe => ?_)
       repeat (first | (apply ord_tk rfl (by rfl) (by rfl) (by rfl); (focus (intro wx hSw; have r0 := (hSw.cell (p := ⟨w.heap.size, 0, none⟩) hszW).trans q0; have r3 := (hSw.cell (p := ⟨b, off + i, none⟩) hbG).trans c1; have r4 := (hSw.cell (p := ⟨b, off + j, none⟩) hbG).trans c2; go_simp; (try with_reducible rfl))); (try simp only [Act.put, List.setIfInBounds_toArray, List.set_cons_zero, List.set_cons_succ])) | (apply ord_skip rfl (by rfl) (by rfl) (fun _ => hBe); (try simp only [Act.put, List.setIfInBounds_toArray, List.set_cons_zero, List.set_cons_succ])))
       refine ord_do rfl (by rfl) (by rfl) (fun K hK => ?_)
       go_simp
       refine (((hAdd _ _ (hs.below (hBe.mono (Nat.le_of_lt hszW)))).mono fun _ _ h => Qt.re h)).mono ?_
       rintro e wd' ⟨rfl, hwd⟩
       replace hBe := hBe.trans (hwd.mono hBe.size)
       clear hwd
       refine hK.out _ _ (fun _ => hBe) ?_
       (try simp only [Act.put, List.setIfInBounds_toArray, List.set_cons_zero, List.set_cons_succ])
       clear hK K
       repeat (first | (apply ord_tk rfl (by rfl) (by rfl) (by rfl); (focus (intro wx hSw; have r0 := (hSw.cell (p := ⟨w.heap.size, 0, none⟩) hszW).trans q0; have r3 := (hSw.cell (p := ⟨b, off + i, none⟩) hbG).trans c1; have r4 := (hSw.cell (p := ⟨b, off + j, none⟩) hbG).trans c2; go_simp; (try with_reducible rfl))); (try simp only [Act.put, List.setIfInBounds_toArray, List.set_cons_zero, List.set_cons_succ])) | (apply ord_skip rfl (by rfl) (by rfl) (fun _ => hBe); (try simp only [Act.put, List.setIfInBounds_toArray, List.set_cons_zero, List.set_cons_succ])))
       refine ord_do rfl (by rfl) (by rfl) (fun K hK => ?_)
       go_simp
       refine (((hHas _ _ (hxs.below (hBe.mono (Nat.le_of_lt hszW)))).mono fun _ _ h => Qt.re h)).mono ?_
       rintro e wd' ⟨rfl, hwd⟩
       replace hBe := hBe.trans (hwd.mono hBe.size)
       clear hwd
       refine hK.out _ _ (fun _ => hBe) ?_
       (try simp only [Act.put, List.setIfInBounds_toArray, List.set_cons_zero, List.set_cons_succ])
       clear hK K
       repeat (first | (apply ord_tk rfl (by rfl) (by rfl) (by rfl); (focus (intro wx hSw; have r0 := (hSw.cell (p := ⟨w.heap.size, 0, none⟩) hszW).trans q0; have r3 := (hSw.cell (p := ⟨b, off + i, none⟩) hbG).trans c1; have r4 := (hSw.cell (p := ⟨b, off + j, none⟩) hbG).trans c2; go_simp; (try with_reducible rfl))); (try simp only [Act.put, List.setIfInBounds_toArray, List.set_cons_zero, List.set_cons_succ])) | (apply ord_skip rfl (by rfl) (by rfl) (fun _ => hBe); (try simp only [Act.put, List.setIfInBounds_toArray, List.set_cons_zero, List.set_cons_succ])))
       refine ord_nil ?_
       go_wp2
       go_roundw
       case rel => exact ⟨j + 1, by omega, by go_num, fun t ht => by rcases Nat.lt_succ_iff_lt_or_eq.1 ht with h | rfl; exact hQ.out t h; exact hV.out, hBe⟩
       case measure => simp [intOf] <;> omega
      | false =>
       rw [hv] at hHas
       have hF := hide (clB_f (os := os) hli hlj (by rw [hEX.out, hEY.out, hES.out]; exact hv))
       clear hv
       go_wp2
       refine wp_region_be [0, 1, 2, 3, 4, 5, 6, 7, 8, 9, 10, 11, 12, 13] 14 W.heap.size W (by kernel_rfl) (by kernel_rfl) (by kernel_rfl) (fun _ _ _ _ _ h => h) hBe (fun wd hBe => ?_)
       repeat (first | (apply ord_tk rfl (by rfl) (by rfl) (by rfl); (focus (intro wx hSw; have r0 := (hSw.cell (p := ⟨w.heap.size, 0, none⟩) hszW).trans q0; have r3 := (hSw.cell (p := ⟨b, off + i, none⟩) hbG).trans c1; have r4 := (hSw.cell (p := ⟨b, off + j, none⟩) hbG).trans c2; go_simp; (try with_reducible rfl))); (try simp only [Act.put, List.setIfInBounds_toArray, List.set_cons_zero, List.set_cons_succ])) | (apply ord_skip rfl (by rfl) (by rfl) (fun _ => hBe); (try simp only [Act.put, List.setIfInBounds_toArray, List.set_cons_zero, List.set_cons_succ])))
       refine ord_do rfl (by rfl) (by rfl) (fun K hK => ?_)
       go_simp
       refine (((hAdd _ _ (hs.below (hBe.mono (Nat.le_of_lt hszW)))).mono fun _ _ h => Qt.re h)).mono ?_
       rintro e wd' ⟨rfl, hwd⟩
       replace hBe := hBe.trans (hwd.mono hBe.size)
       clear hwd
       refine hK.out _ _ (fun _ => hBe) ?_
       (try simp only [Act.put, List.setIfInBounds_toArray, List.set_cons_zero, List.set_cons_succ])
       clear hK K
       repeat (first | (apply ord_tk rfl (by rfl) (by rfl) (by rfl); (focus (intro wx hSw; have r0 := (hSw.cell (p := ⟨w.heap.size, 0, none⟩) hszW).trans q0; have r3 := (hSw.cell (p := ⟨b, off + i, none⟩) hbG).trans c1; have r4 := (hSw.cell (p := ⟨b, off + j, none⟩) hbG).trans c2; go_simp; (try with_reducible rfl))); (try simp only [Act.put, List.setIfInBounds_toArray, List.set_cons_zero, List.set_cons_succ])) | (apply ord_skip rfl (by rfl) (by rfl) (fun _ => hBe); (try simp only [Act.put, List.setIfInBounds_toArray, List.set_cons_zero, List.set_cons_succ])))
       refine ord_do rfl (by rfl) (by rfl) (fun K hK => ?_)
       go_simp
       refine (((hHas _ _ (hxs.below (hBe.mono (Nat.le_of_lt hszW)))).mono fun _ _ h => Qt.re h)).mono ?_
       rintro e wd' ⟨rfl, hwd⟩
       replace hBe := hBe.trans (hwd.mono hBe.size)
       clear hwd
       refine hK.out _ _ (fun _ => hBe) ?_
       (try simp only [Act.put, List.setIfInBounds_toArray, List.set_cons_zero, List.set_cons_succ])
       clear hK K
       repeat (first | (apply ord_tk rfl (by rfl) (by rfl) (by rfl); (focus (intro wx hSw; have r0 := (hSw.cell (p := ⟨w.heap.size, 0, none⟩) hszW).trans q0; have r3 := (hSw.cell (p := ⟨b, off + i, none⟩) hbG).trans c1; have r4 := (hSw.cell (p := ⟨b, off + j, none⟩) hbG).trans c2; go_simp; (try with_reducible rfl))); (try simp only [Act.put, List.setIfInBounds_toArray, List.set_cons_zero, List.set_cons_succ])) | (apply ord_skip rfl (by rfl) (by rfl) (fun _ => hBe); (try simp only [Act.put, List.setIfInBounds_toArray, List.set_cons_zero, List.set_cons_succ])))
       refine ord_nil ?_
       go_wp2
       go_ret
       exact ⟨by rw [hF.out]; rfl, hbW.trans (hBe.mono (Nat.le_of_lt hszW))⟩
     ·obtain rfl : j = xs.length := by omega
      go_wp2
      go_roundw
      case rel => exact ⟨i + 1, by omega, by go_num, fun t u ht hu => by rcases Nat.lt_succ_iff_lt_or_eq.1 ht with h | rfl; exact hP.out t u h hu; exact hQ.out u hu, hBe⟩
      case measure => simp [intOf] <;> omega
   ·obtain rfl : i = xs.length := by omega
    have hT := hide (clB_t (os := os) H0.out fun i k hi hk => hP.out i k hi hk)
    go_wp2
    go_ret
    exact ⟨by rw [hT.out]; rfl, hbW.trans (hBe.mono (Nat.le_of_lt hszW))⟩
set_option maxHeartbeats 2000000 in
theorem isSubgroup_any (w : World) (A : Option Addr) (n c : Nat) (os : List Int) (L : Option Addr) (l lc : Nat) (xs : List Int)
  (h : Sl w w.heap.size A n c os) (hx : Sl w w.heap.size L l lc xs) (hG : OkG os) (hI : IsLst (prodL os) xs) :
  Calls Tryz.prog 83 #[.slice A n c, .slice L l lc] w (Re w (.bool (clB os xs))) := by
 obtain rfl := hx.len
 have hp16 := hG.p16
 have hp2 := hG.ge
 have hl16 := hI.len (by omega)
 have HI := hide hI
 clear hI
 go_enter Tryz.func83, Tryz.ntmps83
 go_wp2_with fail
 go_loopw [11] (fun i wr => ∃ k : Nat, k ≤ xs.length ∧ i = .int .i64 k ∧ (∀ i j, i < k → j < xs.length → hasB xs (Ar os (gi xs i) (gi xs j)) = true) ∧ Below w.heap.size w wr) (fun i _ => xs.length - (intOf i).toNat)
 case atStart => exact ⟨0, by omega, rfl, fun i j hi => absurd hi (by omega), Below.refl _ _⟩
 case round =>
  obtain ⟨i, hi, rfl, hpre, hBe⟩ := hrel
  have hP := hide hpre
  clear hpre
  by_cases hli : i < xs.length
  ·obtain ⟨b, off, rfl, hb, hc⟩ := hx.at_ (by omega)
   have c1 := hc i hli
   have hcH := hide hc
   clear hc
   obtain ⟨vx0, vx1⟩ := HI.out.rng hli
   obtain ⟨vx, ex⟩ : ∃ v, gi xs i = v := ⟨_, rfl⟩
   rw [ex] at c1 vx0 vx1
   have hEX := hide ex
   clear ex
   have r3 := (hBe.cell (p := ⟨b, off + i, none⟩) hb).trans c1
   go_wp2_with fail
   clear r3
   go_loopw [17] (fun j wr => ∃ k : Nat, k ≤ xs.length ∧ j = .int .i64 k ∧ (∀ j, j < k → hasB xs (Ar os (gi xs i) (gi xs j)) = true) ∧ Below w.heap.size w wr) (fun i _ => xs.length - (intOf i).toNat)
   case atStart => exact ⟨0, by omega, rfl, fun j hj => absurd hj (by omega), hBe⟩
   case round =>
    clear hBe
    obtain ⟨j, hj, rfl, hpre, hBe⟩ := hrel
    have hQ := hide hpre
    clear hpre
    by_cases hlj : j < xs.length
    ·have c2 := hcH.out j hlj
     obtain ⟨vy0, vy1⟩ := HI.out.rng hlj
     obtain ⟨vy, ey⟩ : ∃ v, gi xs j = v := ⟨_, rfl⟩
     rw [ey] at c2 vy0 vy1
     have hEY := hide ey
     clear ey
     have r4 := (hBe.cell (p := ⟨b, off + j, none⟩) hb).trans c2
     obtain ⟨s, es⟩ : ∃ s, Ar os vx vy = s := ⟨_, rfl⟩
     have hES := hide es
     have hAdd := fun W' h => addElements_any W' A n c os vx vy hG vx0 (by omega) vy0 (by omega) h
     rw [es] at hAdd
     clear es
     have hHas := fun W' B h => sContains_any W' B (some ⟨b, off, none⟩) xs.length lc xs s h (by omega)
     go_wp2_with fail
     clear r4
     refine (hAdd _ ((h.below hBe).more hBe.size)).mono ?_
     rintro e w3 ⟨rfl, hb3⟩
     replace hBe := hBe.trans (hb3.mono hBe.size)
     clear hb3
     cases hv : hasB xs s with
     | true =>
      rw [hv] at hHas
      have hV := hide (show hasB xs (Ar os (gi xs i) (gi xs j)) = true by rw [hEX.out, hEY.out, hES.out]; exact hv)
      clear hv
      go_wp2_with fail
      refine ((hHas _ _ (hx.below hBe)).mono fun _ _ h => Qt.re h).mono ?_
      rintro e w4 ⟨rfl, hb4⟩
      replace hBe := hBe.trans (hb4.mono hBe.size)
      clear hb4
      go_wp2
      go_roundw
      case rel => exact ⟨j + 1, by omega, by go_num, fun t ht => by rcases Nat.lt_succ_iff_lt_or_eq.1 ht with h | rfl; exact hQ.out t h; exact hV.out, hBe⟩
      case measure => simp [intOf] <;> omega
     | false =>
      rw [hv] at hHas
      have hF := hide (clB_f (os := os) hli hlj (by rw [hEX.out, hEY.out, hES.out]; exact hv))
      clear hv
      go_wp2_with fail
      refine ((hHas _ _ (hx.below hBe)).mono fun _ _ h => Qt.re h).mono ?_
      rintro e w4 ⟨rfl, hb4⟩
      replace hBe := hBe.trans (hb4.mono hBe.size)
      clear hb4
      go_wp2
      go_ret
      exact ⟨by rw [hF.out]; rfl, hBe⟩
    ·obtain rfl : j = xs.length := by omega
     go_wp2
     go_roundw
     case rel => exact ⟨i + 1, by omega, by go_num, fun t u ht hu => by rcases Nat.lt_succ_iff_lt_or_eq.1 ht with h | rfl; exact hP.out t u h hu; exact hQ.out u hu, hBe⟩
     case measure => simp [intOf] <;> omega
  ·obtain rfl : i = xs.length := by omega
   have hT := hide (clB_all (os := os) fun i k hi hk => hP.out i k hi hk)
   obtain ⟨v, ev⟩ : ∃ v, hasB xs 0 = v := ⟨_, rfl⟩
   have hHas := fun W' B h => sContains_any W' B L xs.length lc xs 0 h (by omega)
   rw [ev] at hT hHas
   clear ev
   go_wp2_with fail
   refine ((hHas _ _ (hx.below hBe)).mono fun _ _ h => Qt.re h).mono ?_
   rintro e w4 ⟨rfl, hb4⟩
   replace hBe := hBe.trans (hb4.mono hBe.size)
   clear hb4
   go_wp2
   go_ret
   exact ⟨by rw [hT.out]; rfl, hBe⟩

noncomputable def codeS (os : List Int) (D : Int) (vs xs : List Int) : Int := if codeL os D vs xs = 0 then if clB os xs = true then 0 else 5 else codeL os D vs xs
theorem codeS_0 {os vs xs : List Int} {D : Int} (h : codeS os D vs xs = 0) : IsM os D vs ∧ IsLst (prodL os) xs ∧ clB os xs = true := by
 unfold codeS at h
 split at h
 ·rename_i h1
  split at h
  ·rename_i h2; obtain ⟨a, b⟩ := codeL_0 h1; exact ⟨a, b, h2⟩
  ·omega
 ·rename_i h1; exact absurd h h1
set_option maxHeartbeats 1000000 in
theorem subgroupCode_any (w : World) (A : Option Addr) (n c : Nat) (os : List Int) (D : Int) (A' : Option Addr) (n' c' : Nat) (vs : List Int) (L : Option Addr) (l lc : Nat) (xs : List Int)
  (h : Sl w w.heap.size A n c os) (h' : Sl w w.heap.size A' n' c' vs) (hx : Sl w w.heap.size L l lc xs) (hn : n ≤ 1048576) (hn' : n' ≤ 1048576) (hl : l ≤ 1048576) :
  Calls Tryz.prog 46 #[.agg #[.slice A n c, .int .i64 D, .slice A' n' c'], .slice L l lc] w (Re w (.int .i64 (codeS os D vs xs))) := by
 obtain rfl := h'.len
 obtain rfl := hx.len
 have hcode := fun W A n c A' n' c' LL l lc => listCode_any W A n c os D A' n' c' vs LL l lc xs
 obtain ⟨k, hk⟩ : ∃ k, codeL os D vs xs = k := ⟨_, rfl⟩
 rw [hk] at hcode
 by_cases hk0 : k = 0
 ·subst hk0
  obtain ⟨hM, hI⟩ := codeL_0 hk
  have hG := hM.ok.g
  have HI := hide hI
  obtain ⟨b, hb⟩ : ∃ b, clB os xs = b := ⟨_, rfl⟩
  have hC := hide (show codeS os D vs xs = if b = true then 0 else 5 by unfold codeS; rw [hk, if_pos rfl, hb])
  clear hk
  cases b with
  | true =>
   go_enter Tryz.func46, Tryz.ntmps46
   go_wp2_with fail
   obtain ⟨W, hW⟩ : ∃ W, w.alloc (.cells #[.slice A n c, .int .i64 D, .slice A' vs.length c'] 26) = W := ⟨_, rfl⟩
   have hbW : Below w.heap.size w W := by rw [← hW]; exact (by repeat (first | assumption | exact Below.refl _ _ | apply below_drewN | apply Below.drew | apply Below.alloc | apply Below.setCell | omega | (focus (simp; done)) | (focus (simp; omega))))
   have hszW : w.heap.size < W.heap.size := by rw [← hW]; simp
   have hsW := hide (show W.heap.size = w.heap.size + 1 by rw [← hW]; simp)
   have bM : Blk W w.heap.size 26 #[.slice A n c, .int .i64 D, .slice A' vs.length c'] := by rw [← hW]; exact Blk.new _ _ _
   have q0 : W.cell? ⟨w.heap.size, 0, none⟩ = some (.slice A n c) := by rw [← hW]; exact (Blk.new _ _ _).cell 0
   have q1 : W.cell? ⟨w.heap.size, 1, none⟩ = some (.int .i64 D) := by rw [← hW]; exact (Blk.new _ _ _).cell 1
   have q2 : W.cell? ⟨w.heap.size, 2, none⟩ = some (.slice A' vs.length c') := by rw [← hW]; exact (Blk.new _ _ _).cell 2
   rw [hW]
   clear hW
   have hs := (h.below hbW).more (Nat.le_of_lt hszW)
   have hs' := (h'.below hbW).more (Nat.le_of_lt hszW)
   have hxs := (hx.below hbW).more (Nat.le_of_lt hszW)
   refine (hcode _ _ _ _ _ _ _ _ _ _ hs hs' hxs hn hn' hl).mono ?_
   rintro e w2 ⟨rfl, hb2⟩
   have r0 := (hb2.cell (p := ⟨w.heap.size, 0, none⟩) hszW).trans q0
   have r1 := (hb2.cell (p := ⟨w.heap.size, 1, none⟩) hszW).trans q1
   have r2 := (hb2.cell (p := ⟨w.heap.size, 2, none⟩) hszW).trans q2
   go_wp2_with fail
   clear r0 r1 r2
   refine (isSubgroup_any _ _ _ _ _ _ _ _ _ ((hs.below hb2).more hb2.size) ((hxs.below hb2).more hb2.size) hG HI.out).mono ?_
   rw [hb]
   rintro e w3 ⟨rfl, hb3⟩
   have k3 := hb2.trans (hb3.mono hb2.size)
   go_wp2
   go_ret
   exact ⟨by rw [hC.out]; rfl, hbW.trans (k3.mono (Nat.le_of_lt hszW))⟩
  | false =>
   go_enter Tryz.func46, Tryz.ntmps46
   go_wp2_with fail
   obtain ⟨W, hW⟩ : ∃ W, w.alloc (.cells #[.slice A n c, .int .i64 D, .slice A' vs.length c'] 26) = W := ⟨_, rfl⟩
   have hbW : Below w.heap.size w W := by rw [← hW]; exact (by repeat (first | assumption | exact Below.refl _ _ | apply below_drewN | apply Below.drew | apply Below.alloc | apply Below.setCell | omega | (focus (simp; done)) | (focus (simp; omega))))
   have hszW : w.heap.size < W.heap.size := by rw [← hW]; simp
   have hsW := hide (show W.heap.size = w.heap.size + 1 by rw [← hW]; simp)
   have bM : Blk W w.heap.size 26 #[.slice A n c, .int .i64 D, .slice A' vs.length c'] := by rw [← hW]; exact Blk.new _ _ _
   have q0 : W.cell? ⟨w.heap.size, 0, none⟩ = some (.slice A n c) := by rw [← hW]; exact (Blk.new _ _ _).cell 0
   have q1 : W.cell? ⟨w.heap.size, 1, none⟩ = some (.int .i64 D) := by rw [← hW]; exact (Blk.new _ _ _).cell 1
   have q2 : W.cell? ⟨w.heap.size, 2, none⟩ = some (.slice A' vs.length c') := by rw [← hW]; exact (Blk.new _ _ _).cell 2
   rw [hW]
   clear hW
   have hs := (h.below hbW).more (Nat.le_of_lt hszW)
   have hs' := (h'.below hbW).more (Nat.le_of_lt hszW)
   have hxs := (hx.below hbW).more (Nat.le_of_lt hszW)
   refine (hcode _ _ _ _ _ _ _ _ _ _ hs hs' hxs hn hn' hl).mono ?_
   rintro e w2 ⟨rfl, hb2⟩
   have r0 := (hb2.cell (p := ⟨w.heap.size, 0, none⟩) hszW).trans q0
   have r1 := (hb2.cell (p := ⟨w.heap.size, 1, none⟩) hszW).trans q1
   have r2 := (hb2.cell (p := ⟨w.heap.size, 2, none⟩) hszW).trans q2
   go_wp2_with fail
   clear r0 r1 r2
   refine (isSubgroup_any _ _ _ _ _ _ _ _ _ ((hs.below hb2).more hb2.size) ((hxs.below hb2).more hb2.size) hG HI.out).mono ?_
   rw [hb]
   rintro e w3 ⟨rfl, hb3⟩
   have k3 := hb2.trans (hb3.mono hb2.size)
   go_wp2
   go_ret
   exact ⟨by rw [hC.out]; rfl, hbW.trans (k3.mono (Nat.le_of_lt hszW))⟩
 ·have hC := hide (show codeS os D vs xs = k by unfold codeS; rw [hk, if_neg hk0])
  have hkb : (k == 0) = false := by simpa using hk0
  have hkb' : (k != 0) = true := by simpa using hk0
  clear hk
  go_enter Tryz.func46, Tryz.ntmps46
  go_wp2_with fail
  obtain ⟨W, hW⟩ : ∃ W, w.alloc (.cells #[.slice A n c, .int .i64 D, .slice A' vs.length c'] 26) = W := ⟨_, rfl⟩
  have hbW : Below w.heap.size w W := by rw [← hW]; exact (by repeat (first | assumption | exact Below.refl _ _ | apply below_drewN | apply Below.drew | apply Below.alloc | apply Below.setCell | omega | (focus (simp; done)) | (focus (simp; omega))))
  have hszW : w.heap.size < W.heap.size := by rw [← hW]; simp
  have hsW := hide (show W.heap.size = w.heap.size + 1 by rw [← hW]; simp)
  have bM : Blk W w.heap.size 26 #[.slice A n c, .int .i64 D, .slice A' vs.length c'] := by rw [← hW]; exact Blk.new _ _ _
  have q0 : W.cell? ⟨w.heap.size, 0, none⟩ = some (.slice A n c) := by rw [← hW]; exact (Blk.new _ _ _).cell 0
  have q1 : W.cell? ⟨w.heap.size, 1, none⟩ = some (.int .i64 D) := by rw [← hW]; exact (Blk.new _ _ _).cell 1
  have q2 : W.cell? ⟨w.heap.size, 2, none⟩ = some (.slice A' vs.length c') := by rw [← hW]; exact (Blk.new _ _ _).cell 2
  rw [hW]
  clear hW
  have hs := (h.below hbW).more (Nat.le_of_lt hszW)
  have hs' := (h'.below hbW).more (Nat.le_of_lt hszW)
  have hxs := (hx.below hbW).more (Nat.le_of_lt hszW)
  refine (hcode _ _ _ _ _ _ _ _ _ _ hs hs' hxs hn hn' hl).mono ?_
  rintro e w2 ⟨rfl, hb2⟩
  go_wp2_with fail
  go_ret
  exact ⟨by rw [hC.out]; rfl, hbW.trans (hb2.mono (Nat.le_of_lt hszW))⟩

def isoB (vs xs : List Int) : Bool := xs.all fun x => Vl vs x == 0
set_option maxHeartbeats 1000000 in
theorem l11Isotropic_any (w : World) (A : Option Addr) (n c : Nat) (os : List Int) (D : Int) (A' : Option Addr) (n' c' : Nat) (vs : List Int) (L : Option Addr) (l lc : Nat) (xs : List Int)
  (h' : Sl w w.heap.size A' n' c' vs) (hx : Sl w w.heap.size L l lc xs) (hn' : n' ≤ 1048576) (hl : l ≤ 1048576) (hI : ∀ x ∈ xs, 0 ≤ x ∧ x < vs.length) :
  Calls Tryz.prog 52 #[.agg #[.slice A n c, .int .i64 D, .slice A' n' c'], .slice L l lc] w (Re w (.bool (isoB vs xs))) := by
 obtain rfl := h'.len
 obtain rfl := hx.len
 have HI := hide hI
 clear hI
 go_enter Tryz.func52, Tryz.ntmps52
 go_wp2_with fail
 obtain ⟨W, hW⟩ : ∃ W, w.alloc (.cells #[.slice A n c, .int .i64 D, .slice A' vs.length c'] 26) = W := ⟨_, rfl⟩
 have hbW : Below w.heap.size w W := by rw [← hW]; exact (by repeat (first | assumption | exact Below.refl _ _ | apply below_drewN | apply Below.drew | apply Below.alloc | apply Below.setCell | omega | (focus (simp; done)) | (focus (simp; omega))))
 have hszW : w.heap.size < W.heap.size := by rw [← hW]; simp
 have hsW := hide (show W.heap.size = w.heap.size + 1 by rw [← hW]; simp)
 have bM : Blk W w.heap.size 26 #[.slice A n c, .int .i64 D, .slice A' vs.length c'] := by rw [← hW]; exact Blk.new _ _ _
 have q0 : W.cell? ⟨w.heap.size, 0, none⟩ = some (.slice A n c) := by rw [← hW]; exact (Blk.new _ _ _).cell 0
 have q1 : W.cell? ⟨w.heap.size, 1, none⟩ = some (.int .i64 D) := by rw [← hW]; exact (Blk.new _ _ _).cell 1
 have q2 : W.cell? ⟨w.heap.size, 2, none⟩ = some (.slice A' vs.length c') := by rw [← hW]; exact (Blk.new _ _ _).cell 2
 rw [hW]
 clear hW
 have hs' := h'.below hbW
 have hxs := hx.below hbW
 go_wp2_with fail
 go_loopw [5] (fun i wr => ∃ k : Nat, k ≤ xs.length ∧ i = .int .i64 k ∧ (∀ j, j < k → (Vl vs (gi xs j) == 0) = true) ∧ Below W.heap.size W wr) (fun i _ => xs.length - (intOf i).toNat)
 case atStart => exact ⟨0, by omega, rfl, fun j hj => absurd hj (by omega), Below.refl _ _⟩
 case round =>
  obtain ⟨k, hk, rfl, hpre, hBe⟩ := hrel
  have hP := hide hpre
  clear hpre
  by_cases hlt : k < xs.length
  ·obtain ⟨b, off, rfl, hb, hc⟩ := hxs.at_ (by omega)
   have c1 := hc k hlt
   have hbG : b < W.heap.size := by omega
   clear hc
   obtain ⟨x0, x1⟩ := HI.out _ (gi_mem hlt)
   obtain ⟨x, ex⟩ : ∃ x : Nat, gi xs k = (x : Int) := ⟨(gi xs k).toNat, by omega⟩
   rw [ex] at c1 x0 x1
   have hEX := hide ex
   clear ex
   obtain ⟨b', off', rfl, hb', hc'⟩ := hs'.at_ (by omega)
   have c2 := hc' x (by omega)
   have hbG' : b' < W.heap.size := by omega
   clear hc'
   obtain ⟨v, ev⟩ : ∃ v, gi vs x = v := ⟨_, rfl⟩
   rw [ev] at c2
   have hEV := hide (show Vl vs (gi xs k) = v by rw [hEX.out]; exact ev)
   clear ev
   have i0 : 0 ≤ (k : Int) := by omega
   have i1 : (k : Int) < (xs.length : Int) := by omega
   have i2 : (x : Int) < (vs.length : Int) := by omega
   by_cases hv : v = 0
   ·have hvb : (v != 0) = false := by simpa using hv
    have hV := hide (show (Vl vs (gi xs k) == 0) = true by rw [hEV.out, hv]; rfl)
    clear hv
    go_wp2
    refine wp_region_be [0, 1, 2, 3, 4, 5, 6, 7, 8] 9 W.heap.size W (by kernel_rfl) (by kernel_rfl) (by kernel_rfl) (fun _ _ _ _ _ h => h) hBe (fun wd hBe => ?_)
    repeat (first | (apply ord_tk rfl (by rfl) (by rfl) (by rfl); (focus (intro wx hSw; have r2 := (hSw.cell (p := ⟨w.heap.size, 2, none⟩) hszW).trans q2; have r3 := (hSw.cell (p := ⟨b, off + k, none⟩) hbG).trans c1; have r4 := (hSw.cell (p := ⟨b', off' + x, none⟩) hbG').trans c2; go_simp; (try with_reducible rfl))); (try simp only [Act.put, List.setIfInBounds_toArray, List.set_cons_zero, List.set_cons_succ])) | (apply ord_skip rfl (by rfl) (by rfl) (fun _ => hBe); (try simp only [Act.put, List.setIfInBounds_toArray, List.set_cons_zero, List.set_cons_succ])))
    refine ord_nil ?_
    go_wp2
    go_roundw
    case rel => exact ⟨k + 1, by omega, by go_num, fun t ht => by rcases Nat.lt_succ_iff_lt_or_eq.1 ht with h | rfl; exact hP.out t h; exact hV.out, hBe⟩
    case measure => simp [intOf] <;> omega
   ·have hvb : (v != 0) = true := by simpa using hv
    have hF := hide (show isoB vs xs = false from all_f hlt (by rw [hEV.out]; simpa using hv))
    clear hv
    go_wp2
    refine wp_region_be [0, 1, 2, 3, 4, 5, 6, 7, 8] 9 W.heap.size W (by kernel_rfl) (by kernel_rfl) (by kernel_rfl) (fun _ _ _ _ _ h => h) hBe (fun wd hBe => ?_)
    repeat (first | (apply ord_tk rfl (by rfl) (by rfl) (by rfl); (focus (intro wx hSw; have r2 := (hSw.cell (p := ⟨w.heap.size, 2, none⟩) hszW).trans q2; have r3 := (hSw.cell (p := ⟨b, off + k, none⟩) hbG).trans c1; have r4 := (hSw.cell (p := ⟨b', off' + x, none⟩) hbG').trans c2; go_simp; (try with_reducible rfl))); (try simp only [Act.put, List.setIfInBounds_toArray, List.set_cons_zero, List.set_cons_succ])) | (apply ord_skip rfl (by rfl) (by rfl) (fun _ => hBe); (try simp only [Act.put, List.setIfInBounds_toArray, List.set_cons_zero, List.set_cons_succ])))
    refine ord_nil ?_
    go_wp2
    go_ret
    exact ⟨by rw [hF.out]; rfl, hbW.trans (hBe.mono (Nat.le_of_lt hszW))⟩
  ·obtain rfl : k = xs.length := by omega
   have hT := hide (show isoB vs xs = true from all_t fun j hj => hP.out j hj)
   go_wp2
   go_ret
   exact ⟨by rw [hT.out]; rfl, hbW.trans (hBe.mono (Nat.le_of_lt hszW))⟩
theorem iso_index (W w : World) (A : Option Addr) (n c : Nat) (xs : List Int) (p : Int → Bool) (M : Nat) (hx : Sl W W.heap.size A n c xs) (hn : n ≤ 1048576) (hw : Below W.heap.size W w)
  (hcall : ∀ k, k < xs.length → ∀ wd, Below W.heap.size W wd → Calls Tryz.prog 93 #[.int .i64 (gi xs k), .pointer (some ⟨M, 0, none⟩)] wd (Re wd (.bool (p (gi xs k))))) :
  Calls Tryz.prog 134 #[.slice A n c, .func (.func 93) #[] #[.pointer (some ⟨M, 0, none⟩)]] w (fun e w' => ∃ r : Int, e = .returned (.int .i64 r) ∧ decide (0 ≤ r) = xs.any p ∧ Below W.heap.size W w') := by
 obtain rfl := hx.len
 have HC := hide hcall
 clear hcall
 go_enter Tryz.func134, Tryz.ntmps134
 go_wp2_with fail
 go_loopw [8] (fun i wr => ∃ k : Nat, k ≤ xs.length ∧ i = .int .i64 k ∧ (∀ j, j < k → p (gi xs j) = false) ∧ Below W.heap.size W wr) (fun i _ => xs.length - (intOf i).toNat)
 case atStart => exact ⟨0, by omega, rfl, fun j hj => absurd hj (by omega), hw⟩
 case round =>
  clear hw
  obtain ⟨k, hk, rfl, hpre, hBe⟩ := hrel
  have hP := hide hpre
  clear hpre
  by_cases hlt : k < xs.length
  ·obtain ⟨b, off, rfl, hb, hc⟩ := hx.at_ (by omega)
   have c1 := (hBe.cell (p := ⟨b, off + k, none⟩) hb).trans (hc k hlt)
   clear hc
   have hcl := HC.out k hlt
   cases hv : p (gi xs k) with
   | true =>
    have hT := hide (show xs.any p = true from List.any_eq_true.2 ⟨_, gi_mem hlt, hv⟩)
    rw [hv] at hcl
    have HL := hide hcl
    clear hv hcl
    go_wp2_with fail
    clear c1
    refine (HL.out _ hBe).mono ?_
    rintro e w3 ⟨rfl, hb3⟩
    replace hBe := hBe.trans (hb3.mono hBe.size)
    clear hb3
    go_wp2_with fail
    go_ret
    exact ⟨k, rfl, by rw [hT.out]; simp, hBe⟩
   | false =>
    rw [hv] at hcl
    have HL := hide hcl
    have hv' := hide hv
    clear hv hcl
    go_wp2_with fail
    clear c1
    refine (HL.out _ hBe).mono ?_
    rintro e w3 ⟨rfl, hb3⟩
    replace hBe := hBe.trans (hb3.mono hBe.size)
    clear hb3
    go_wp2_with fail
    go_roundw
    case rel => exact ⟨k + 1, by omega, by go_num, fun j hj => by rcases Nat.lt_succ_iff_lt_or_eq.1 hj with h | rfl; exact hP.out j h; exact hv'.out, hBe⟩
    case measure => simp [intOf] <;> omega
  ·obtain rfl : k = xs.length := by omega
   have hT := hide (show xs.any p = false from by
    refine Bool.eq_false_iff.2 fun ha => ?_
    obtain ⟨x, hx, he⟩ := List.any_eq_true.1 ha
    obtain ⟨j, hj, rfl⟩ := List.getElem_of_mem hx
    rw [gi_ext hj, hP.out j hj] at he
    cases he)
   go_wp2
   go_ret
   exact ⟨-1, rfl, by rw [hT.out]; rfl, hBe⟩
theorem iso_contains (W w : World) (A : Option Addr) (n c : Nat) (xs : List Int) (p : Int → Bool) (M : Nat) (hx : Sl W W.heap.size A n c xs) (hn : n ≤ 1048576) (hw : Below W.heap.size W w)
  (hcall : ∀ k, k < xs.length → ∀ wd, Below W.heap.size W wd → Calls Tryz.prog 93 #[.int .i64 (gi xs k), .pointer (some ⟨M, 0, none⟩)] wd (Re wd (.bool (p (gi xs k))))) :
  Calls Tryz.prog 92 #[.slice A n c, .func (.func 93) #[] #[.pointer (some ⟨M, 0, none⟩)]] w (fun e w' => e = .returned (.bool (xs.any p)) ∧ Below W.heap.size W w') := by
 have HI := hide (iso_index W w A n c xs p M hx hn hw hcall)
 clear hcall
 go_enter Tryz.func92, Tryz.ntmps92
 go_wp2_with fail
 refine HI.out.mono ?_
 rintro e w' ⟨r, rfl, hr, hb⟩
 have hR := hide hr
 clear hr
 go_wp2
 go_ret
 exact ⟨by rw [← hR.out]; rfl, hb⟩
theorem any_not {p q : Int → Bool} {xs : List Int} (h : ∀ x ∈ xs, p x = !q x) : (!(xs.any p)) = xs.all q := by
 rw [List.not_any_eq_all_not]
 refine Bool.eq_iff_iff.2 ?_
 rw [List.all_eq_true, List.all_eq_true]
 exact ⟨fun k x hx => by have := k x hx; rw [h x hx] at this; simpa using this, fun k x hx => by rw [h x hx, k x hx]; rfl⟩
theorem iso_call (w : World) (M : Nat) (A : Option Addr) (n c : Nat) (D : Int) (b off : Nat) (c' : Nat) (vs : List Int) (x : Nat) (hM : Blk w M 26 #[.slice A n c, .int .i64 D, .slice (some ⟨b, off, none⟩) vs.length c'])
  (hx : x < vs.length) (hc : w.cell? ⟨b, off + x, none⟩ = some (.int .i64 (gi vs x))) (hn' : vs.length ≤ 1048576) :
  Calls Tryz.prog 93 #[.int .i64 (x : Int), .pointer (some ⟨M, 0, none⟩)] w (Re w (.bool (gi vs x != 0))) := by
 have r2 := hM.cell 2
 obtain ⟨v, ev⟩ : ∃ v, gi vs x = v := ⟨_, rfl⟩
 rw [ev] at hc ⊢
 clear ev
 go_enter Tryz.func93, Tryz.ntmps93
 go_wp2
 go_ret
 exact ⟨rfl, Below.refl _ _⟩
set_option maxHeartbeats 1000000 in
theorem isIsotropic_any (w : World) (A : Option Addr) (n c : Nat) (os : List Int) (D : Int) (A' : Option Addr) (n' c' : Nat) (vs : List Int) (L : Option Addr) (l lc : Nat) (xs : List Int)
  (h' : Sl w w.heap.size A' n' c' vs) (hx : Sl w w.heap.size L l lc xs) (hn' : n' ≤ 1048576) (hl : l ≤ 1048576) (hI : ∀ x ∈ xs, 0 ≤ x ∧ x < vs.length) :
  Calls Tryz.prog 47 #[.agg #[.slice A n c, .int .i64 D, .slice A' n' c'], .slice L l lc] w (Re w (.bool (isoB vs xs))) := by
 obtain rfl := h'.len
 obtain rfl := hx.len
 have HI := hide hI
 have hE := hide (show (!(xs.any fun x => Vl vs x != 0)) = isoB vs xs from any_not fun x _ => by simp [bne])
 clear hI
 go_enter Tryz.func47, Tryz.ntmps47
 go_wp2_with fail
 obtain ⟨W, hW⟩ : ∃ W, w.alloc (.cells #[.slice A n c, .int .i64 D, .slice A' vs.length c'] 26) = W := ⟨_, rfl⟩
 have hbW : Below w.heap.size w W := by rw [← hW]; exact (by repeat (first | assumption | exact Below.refl _ _ | apply below_drewN | apply Below.drew | apply Below.alloc | apply Below.setCell | omega | (focus (simp; done)) | (focus (simp; omega))))
 have hszW : w.heap.size < W.heap.size := by rw [← hW]; simp
 have hsW := hide (show W.heap.size = w.heap.size + 1 by rw [← hW]; simp)
 have bM : Blk W w.heap.size 26 #[.slice A n c, .int .i64 D, .slice A' vs.length c'] := by rw [← hW]; exact Blk.new _ _ _
 have q0 : W.cell? ⟨w.heap.size, 0, none⟩ = some (.slice A n c) := by rw [← hW]; exact (Blk.new _ _ _).cell 0
 have q1 : W.cell? ⟨w.heap.size, 1, none⟩ = some (.int .i64 D) := by rw [← hW]; exact (Blk.new _ _ _).cell 1
 have q2 : W.cell? ⟨w.heap.size, 2, none⟩ = some (.slice A' vs.length c') := by rw [← hW]; exact (Blk.new _ _ _).cell 2
 rw [hW]
 clear hW
 have hs' := (h'.below hbW).more (Nat.le_of_lt hszW)
 have hxs := (hx.below hbW).more (Nat.le_of_lt hszW)
 go_wp2_with fail
 refine (iso_contains W _ _ _ _ xs (fun x => Vl vs x != 0) w.heap.size hxs hl (Below.refl _ _) ?_).mono ?_
 ·intro k hk wd hwd
  obtain ⟨x0, x1⟩ := HI.out _ (gi_mem hk)
  obtain ⟨x, ex⟩ : ∃ x : Nat, gi xs k = (x : Int) := ⟨(gi xs k).toNat, by omega⟩
  rw [ex]
  obtain ⟨b', off', rfl, hb', hc'⟩ := hs'.at_ (by omega)
  exact iso_call wd w.heap.size A n c D b' off' c' vs x (bM.all hwd) (by omega) ((hwd.cell (p := ⟨b', off' + x, none⟩) hb').trans (hc' x (by omega))) hn'
 ·rintro e w3 ⟨rfl, hb3⟩
  go_wp2
  go_ret
  exact ⟨by rw [← hE.out]; rfl, hbW.trans (hb3.mono (Nat.le_of_lt hszW))⟩
end Go.Proofs.YtbpihnpakolooaaGreatDoor
