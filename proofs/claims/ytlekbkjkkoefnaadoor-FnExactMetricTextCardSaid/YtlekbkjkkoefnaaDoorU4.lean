
/- The walks of l11Code, subgroupCode, l11Isotropic, isIsotropic, l11Orthogonal, orthogonal. -/
import Derived.Test.YtlekbkjkkoefnaaDoorU3
import Derived.WalkLawsBesides
namespace Go.Proofs.YtlekbkjkkoefnaaDoor
open Go Go.RowKit Grp
set_option linter.unusedSimpArgs false
set_option linter.unusedVariables false

/-- The code of a metric and a subgroup. -/
noncomputable def codeS (os : List Int) (D : Int) (vs xs : List Int) : Int := if codeL os D vs xs = 0 then if clB os xs = true then 0 else 5 else codeL os D vs xs
theorem codeS_0 {os vs xs : List Int} {D : Int} (h : codeS os D vs xs = 0) : IsM os D vs ∧ IsLst (prodL os) xs ∧ clB os xs = true := by
  unfold codeS at h
  split at h
  · rename_i h1
    split at h
    · rename_i h2; obtain ⟨a, b⟩ := codeL_0 h1; exact ⟨a, b, h2⟩
    · omega
  · rename_i h1; exact absurd h h1

/-- Is the value 0 at each element of a list? -/
def isoB (vs xs : List Int) : Bool := xs.all fun x => Vl vs x == 0
set_option maxHeartbeats 1000000 in
theorem l11Isotropic_any (w : World) (A : Option Addr) (n c : Nat) (os : List Int) (D : Int) (A' : Option Addr) (n' c' : Nat) (vs : List Int) (L : Option Addr) (l lc : Nat) (xs : List Int)
    (h' : Sl w w.heap.size A' n' c' vs) (hx : Sl w w.heap.size L l lc xs) (hn' : n' ≤ 1048576) (hl : l ≤ 1048576) (hI : ∀ x ∈ xs, 0 ≤ x ∧ x < vs.length) :
    Calls Tryd.prog 76 #[.agg #[.slice A n c, .int .i64 D, .slice A' n' c'], .slice L l lc] w (Re w (.bool (isoB vs xs))) := by
  obtain rfl := h'.len
  obtain rfl := hx.len
  have HI := hide hI
  clear hI
  go_enter Tryd.func76, Tryd.ntmps76
  go_wp2_with fail
  obtain ⟨W, hW⟩ : ∃ W, w.alloc (.cells #[.slice A n c, .int .i64 D, .slice A' vs.length c'] 28) = W := ⟨_, rfl⟩
  have hbW : Below w.heap.size w W := by rw [← hW]; exact (by repeat (first | assumption | exact Below.refl _ _ | apply below_drewN | apply Below.drew | apply Below.alloc | apply Below.setCell | omega | (focus (simp; done)) | (focus (simp; omega))))
  have hszW : w.heap.size < W.heap.size := by rw [← hW]; simp
  have hsW := hide (show W.heap.size = w.heap.size + 1 by rw [← hW]; simp)
  have bM : Blk W w.heap.size 28 #[.slice A n c, .int .i64 D, .slice A' vs.length c'] := by rw [← hW]; exact Blk.new _ _ _
  have q0 : W.cell? ⟨w.heap.size, 0, none⟩ = some (.slice A n c) := by rw [← hW]; exact (Blk.new _ _ _).cell 0
  have q1 : W.cell? ⟨w.heap.size, 1, none⟩ = some (.int .i64 D) := by rw [← hW]; exact (Blk.new _ _ _).cell 1
  have q2 : W.cell? ⟨w.heap.size, 2, none⟩ = some (.slice A' vs.length c') := by rw [← hW]; exact (Blk.new _ _ _).cell 2
  rw [hW]
  clear hW
  have hs' := h'.below hbW
  have hxs := hx.below hbW
  go_wp2_with fail
  go_loopw [5] (fun i wr => ∃ k : Nat, k ≤ xs.length ∧ i = .int .i64 k ∧ (∀ j, j < k → (Vl vs (gi xs j) == 0) = true) ∧ Below W.heap.size W wr) (fun i _ => xs.length - (intOf i).toNat)
  case atStart => exact ⟨0, by omega, rfl, fun j hj => absurd hj (by omega), Below.refl _ _⟩
  case round =>
    obtain ⟨k, hk, rfl, hpre, hBe⟩ := hrel
    have hP := hide hpre
    clear hpre
    by_cases hlt : k < xs.length
    · obtain ⟨b, off, rfl, hb, hc⟩ := hxs.at_ (by omega)
      have c1 := hc k hlt
      have hbG : b < W.heap.size := by omega
      clear hc
      obtain ⟨x0, x1⟩ := HI.out _ (gi_mem hlt)
      obtain ⟨x, ex⟩ : ∃ x : Nat, gi xs k = (x : Int) := ⟨(gi xs k).toNat, by omega⟩
      rw [ex] at c1 x0 x1
      have hEX := hide ex
      clear ex
      obtain ⟨b', off', rfl, hb', hc'⟩ := hs'.at_ (by omega)
      have c2 := hc' x (by omega)
      have hbG' : b' < W.heap.size := by omega
      clear hc'
      obtain ⟨v, ev⟩ : ∃ v, gi vs x = v := ⟨_, rfl⟩
      rw [ev] at c2
      have hEV := hide (show Vl vs (gi xs k) = v by rw [hEX.out]; exact ev)
      clear ev
      have i0 : 0 ≤ (k : Int) := by omega
      have i1 : (k : Int) < (xs.length : Int) := by omega
      have i2 : (x : Int) < (vs.length : Int) := by omega
      by_cases hv : v = 0
      · have hvb : (v != 0) = false := by simpa using hv
        have hV := hide (show (Vl vs (gi xs k) == 0) = true by rw [hEV.out, hv]; rfl)
        clear hv
        go_wp2
        refine wp_region_be [0, 1, 2, 3, 4, 5, 6, 7, 8] 9 W.heap.size W (by kernel_rfl) (by kernel_rfl) (by kernel_rfl) (fun _ _ _ _ _ h => h) hBe (fun wd hBe => ?_)
        repeat (first | (apply ord_tk rfl (by rfl) (by rfl) (by rfl); (focus (intro wx hSw; have r2 := (hSw.cell (p := ⟨w.heap.size, 2, none⟩) hszW).trans q2; have r3 := (hSw.cell (p := ⟨b, off + k, none⟩) hbG).trans c1; have r4 := (hSw.cell (p := ⟨b', off' + x, none⟩) hbG').trans c2; go_simp; (try with_reducible rfl))); (try simp only [Act.put, List.setIfInBounds_toArray, List.set_cons_zero, List.set_cons_succ])) | (apply ord_skip rfl (by rfl) (by rfl) (fun _ => hBe); (try simp only [Act.put, List.setIfInBounds_toArray, List.set_cons_zero, List.set_cons_succ])))
        refine ord_nil ?_
        go_wp2
        go_roundw
        case rel => exact ⟨k + 1, by omega, by go_num, fun t ht => by rcases Nat.lt_succ_iff_lt_or_eq.1 ht with h | rfl; exact hP.out t h; exact hV.out, hBe⟩
        case measure => simp [intOf] <;> omega
      · have hvb : (v != 0) = true := by simpa using hv
        have hF := hide (show isoB vs xs = false from all_f hlt (by rw [hEV.out]; simpa using hv))
        clear hv
        go_wp2
        refine wp_region_be [0, 1, 2, 3, 4, 5, 6, 7, 8] 9 W.heap.size W (by kernel_rfl) (by kernel_rfl) (by kernel_rfl) (fun _ _ _ _ _ h => h) hBe (fun wd hBe => ?_)
        repeat (first | (apply ord_tk rfl (by rfl) (by rfl) (by rfl); (focus (intro wx hSw; have r2 := (hSw.cell (p := ⟨w.heap.size, 2, none⟩) hszW).trans q2; have r3 := (hSw.cell (p := ⟨b, off + k, none⟩) hbG).trans c1; have r4 := (hSw.cell (p := ⟨b', off' + x, none⟩) hbG').trans c2; go_simp; (try with_reducible rfl))); (try simp only [Act.put, List.setIfInBounds_toArray, List.set_cons_zero, List.set_cons_succ])) | (apply ord_skip rfl (by rfl) (by rfl) (fun _ => hBe); (try simp only [Act.put, List.setIfInBounds_toArray, List.set_cons_zero, List.set_cons_succ])))
        refine ord_nil ?_
        go_wp2
        go_ret
        exact ⟨by rw [hF.out]; rfl, hbW.trans (hBe.mono (Nat.le_of_lt hszW))⟩
    · obtain rfl : k = xs.length := by omega
      have hT := hide (show isoB vs xs = true from all_t fun j hj => hP.out j hj)
      go_wp2
      go_ret
      exact ⟨by rw [hT.out]; rfl, hbW.trans (hBe.mono (Nat.le_of_lt hszW))⟩
theorem iso_index (W w : World) (A : Option Addr) (n c : Nat) (xs : List Int) (p : Int → Bool) (M : Nat) (hx : Sl W W.heap.size A n c xs) (hn : n ≤ 1048576) (hw : Below W.heap.size W w)
    (hcall : ∀ k, k < xs.length → ∀ wd, Below W.heap.size W wd → Calls Tryd.prog 114 #[.int .i64 (gi xs k), .pointer (some ⟨M, 0, none⟩)] wd (Re wd (.bool (p (gi xs k))))) :
    Calls Tryd.prog 113 #[.slice A n c, .func (.func 114) #[] #[.pointer (some ⟨M, 0, none⟩)]] w (fun e w' => ∃ r : Int, e = .returned (.int .i64 r) ∧ decide (0 ≤ r) = xs.any p ∧ Below W.heap.size W w') := by
  obtain rfl := hx.len
  have HC := hide hcall
  clear hcall
  go_enter Tryd.func113, Tryd.ntmps113
  go_wp2_with fail
  go_loopw [8] (fun i wr => ∃ k : Nat, k ≤ xs.length ∧ i = .int .i64 k ∧ (∀ j, j < k → p (gi xs j) = false) ∧ Below W.heap.size W wr) (fun i _ => xs.length - (intOf i).toNat)
  case atStart => exact ⟨0, by omega, rfl, fun j hj => absurd hj (by omega), hw⟩
  case round =>
    clear hw
    obtain ⟨k, hk, rfl, hpre, hBe⟩ := hrel
    have hP := hide hpre
    clear hpre
    by_cases hlt : k < xs.length
    · obtain ⟨b, off, rfl, hb, hc⟩ := hx.at_ (by omega)
      have c1 := (hBe.cell (p := ⟨b, off + k, none⟩) hb).trans (hc k hlt)
      clear hc
      have hcl := HC.out k hlt
      cases hv : p (gi xs k) with
      | true =>
        have hT := hide (show xs.any p = true from List.any_eq_true.2 ⟨_, gi_mem hlt, hv⟩)
        rw [hv] at hcl
        have HL := hide hcl
        clear hv hcl
        go_wp2_with fail
        clear c1
        refine (HL.out _ hBe).mono ?_
        rintro e w3 ⟨rfl, hb3⟩
        replace hBe := hBe.trans (hb3.mono hBe.size)
        clear hb3
        go_wp2_with fail
        go_ret
        exact ⟨k, rfl, by rw [hT.out]; simp, hBe⟩
      | false =>
        rw [hv] at hcl
        have HL := hide hcl
        have hv' := hide hv
        clear hv hcl
        go_wp2_with fail
        clear c1
        refine (HL.out _ hBe).mono ?_
        rintro e w3 ⟨rfl, hb3⟩
        replace hBe := hBe.trans (hb3.mono hBe.size)
        clear hb3
        go_wp2_with fail
        go_roundw
        case rel => exact ⟨k + 1, by omega, by go_num, fun j hj => by rcases Nat.lt_succ_iff_lt_or_eq.1 hj with h | rfl; exact hP.out j h; exact hv'.out, hBe⟩
        case measure => simp [intOf] <;> omega
    · obtain rfl : k = xs.length := by omega
      have hT := hide (show xs.any p = false from by
        refine Bool.eq_false_iff.2 fun ha => ?_
        obtain ⟨x, hx, he⟩ := List.any_eq_true.1 ha
        obtain ⟨j, hj, rfl⟩ := List.getElem_of_mem hx
        rw [gi_ext hj, hP.out j hj] at he
        cases he)
      go_wp2
      go_ret
      exact ⟨-1, rfl, by rw [hT.out]; rfl, hBe⟩
theorem iso_contains (W w : World) (A : Option Addr) (n c : Nat) (xs : List Int) (p : Int → Bool) (M : Nat) (hx : Sl W W.heap.size A n c xs) (hn : n ≤ 1048576) (hw : Below W.heap.size W w)
    (hcall : ∀ k, k < xs.length → ∀ wd, Below W.heap.size W wd → Calls Tryd.prog 114 #[.int .i64 (gi xs k), .pointer (some ⟨M, 0, none⟩)] wd (Re wd (.bool (p (gi xs k))))) :
    Calls Tryd.prog 99 #[.slice A n c, .func (.func 114) #[] #[.pointer (some ⟨M, 0, none⟩)]] w (fun e w' => e = .returned (.bool (xs.any p)) ∧ Below W.heap.size W w') := by
  have HI := hide (iso_index W w A n c xs p M hx hn hw hcall)
  clear hcall
  go_enter Tryd.func99, Tryd.ntmps99
  go_wp2_with fail
  refine HI.out.mono ?_
  rintro e w' ⟨r, rfl, hr, hb⟩
  have hR := hide hr
  clear hr
  go_wp2
  go_ret
  exact ⟨by rw [← hR.out]; rfl, hb⟩
theorem any_not {p q : Int → Bool} {xs : List Int} (h : ∀ x ∈ xs, p x = !q x) : (!(xs.any p)) = xs.all q := by
  rw [List.not_any_eq_all_not]
  refine Bool.eq_iff_iff.2 ?_
  rw [List.all_eq_true, List.all_eq_true]
  exact ⟨fun k x hx => by have := k x hx; rw [h x hx] at this; simpa using this, fun k x hx => by rw [h x hx, k x hx]; rfl⟩
theorem iso_call (w : World) (M : Nat) (A : Option Addr) (n c : Nat) (D : Int) (b off : Nat) (c' : Nat) (vs : List Int) (x : Nat) (hM : Blk w M 28 #[.slice A n c, .int .i64 D, .slice (some ⟨b, off, none⟩) vs.length c'])
    (hx : x < vs.length) (hc : w.cell? ⟨b, off + x, none⟩ = some (.int .i64 (gi vs x))) (hn' : vs.length ≤ 1048576) :
    Calls Tryd.prog 114 #[.int .i64 (x : Int), .pointer (some ⟨M, 0, none⟩)] w (Re w (.bool (gi vs x != 0))) := by
  have r2 := hM.cell 2
  obtain ⟨v, ev⟩ : ∃ v, gi vs x = v := ⟨_, rfl⟩
  rw [ev] at hc ⊢
  clear ev
  go_enter Tryd.func114, Tryd.ntmps114
  go_wp2
  go_ret
  exact ⟨rfl, Below.refl _ _⟩
set_option maxHeartbeats 1000000 in
theorem isIsotropic_any (w : World) (A : Option Addr) (n c : Nat) (os : List Int) (D : Int) (A' : Option Addr) (n' c' : Nat) (vs : List Int) (L : Option Addr) (l lc : Nat) (xs : List Int)
    (h' : Sl w w.heap.size A' n' c' vs) (hx : Sl w w.heap.size L l lc xs) (hn' : n' ≤ 1048576) (hl : l ≤ 1048576) (hI : ∀ x ∈ xs, 0 ≤ x ∧ x < vs.length) :
    Calls Tryd.prog 79 #[.agg #[.slice A n c, .int .i64 D, .slice A' n' c'], .slice L l lc] w (Re w (.bool (isoB vs xs))) := by
  obtain rfl := h'.len
  obtain rfl := hx.len
  have HI := hide hI
  have hE := hide (show (!(xs.any fun x => Vl vs x != 0)) = isoB vs xs from any_not fun x _ => by simp [bne])
  clear hI
  go_enter Tryd.func79, Tryd.ntmps79
  go_wp2_with fail
  obtain ⟨W, hW⟩ : ∃ W, w.alloc (.cells #[.slice A n c, .int .i64 D, .slice A' vs.length c'] 28) = W := ⟨_, rfl⟩
  have hbW : Below w.heap.size w W := by rw [← hW]; exact (by repeat (first | assumption | exact Below.refl _ _ | apply below_drewN | apply Below.drew | apply Below.alloc | apply Below.setCell | omega | (focus (simp; done)) | (focus (simp; omega))))
  have hszW : w.heap.size < W.heap.size := by rw [← hW]; simp
  have hsW := hide (show W.heap.size = w.heap.size + 1 by rw [← hW]; simp)
  have bM : Blk W w.heap.size 28 #[.slice A n c, .int .i64 D, .slice A' vs.length c'] := by rw [← hW]; exact Blk.new _ _ _
  have q0 : W.cell? ⟨w.heap.size, 0, none⟩ = some (.slice A n c) := by rw [← hW]; exact (Blk.new _ _ _).cell 0
  have q1 : W.cell? ⟨w.heap.size, 1, none⟩ = some (.int .i64 D) := by rw [← hW]; exact (Blk.new _ _ _).cell 1
  have q2 : W.cell? ⟨w.heap.size, 2, none⟩ = some (.slice A' vs.length c') := by rw [← hW]; exact (Blk.new _ _ _).cell 2
  rw [hW]
  clear hW
  have hs' := (h'.below hbW).more (Nat.le_of_lt hszW)
  have hxs := (hx.below hbW).more (Nat.le_of_lt hszW)
  go_wp2_with fail
  refine (iso_contains W _ _ _ _ xs (fun x => Vl vs x != 0) w.heap.size hxs hl (Below.refl _ _) ?_).mono ?_
  · intro k hk wd hwd
    obtain ⟨x0, x1⟩ := HI.out _ (gi_mem hk)
    obtain ⟨x, ex⟩ : ∃ x : Nat, gi xs k = (x : Int) := ⟨(gi xs k).toNat, by omega⟩
    rw [ex]
    obtain ⟨b', off', rfl, hb', hc'⟩ := hs'.at_ (by omega)
    exact iso_call wd w.heap.size A n c D b' off' c' vs x (bM.all hwd) (by omega) ((hwd.cell (p := ⟨b', off' + x, none⟩) hb').trans (hc' x (by omega))) hn'
  · rintro e w3 ⟨rfl, hb3⟩
    go_wp2
    go_ret
    exact ⟨by rw [← hE.out]; rfl, hbW.trans (hb3.mono (Nat.le_of_lt hszW))⟩
end Go.Proofs.YtlekbkjkkoefnaaDoor
