
/- The walks of l10Radical, radical. The walks of radical (of the program), RadicalOf and IsNondegenerate of both sides. The walks of l11Orthogonal, orthogonal. -/
import Derived.Test.YtbpihnpakolooaaGreatDoorEa
import Derived.WalkLawsBesides
import Derived.Test.YtbpihnpakolooaaGreatDoorLa
import Derived.Test.YtbpihnpakolooaaGreatDoorU2a
namespace Go.Proofs.YtbpihnpakolooaaGreatDoor
open Go Go.RowKit Grp
set_option linter.unusedSimpArgs false
set_option linter.unusedVariables false

/-- x pairs to 0 with all elements. -/
def radB (os : List Int) (D : Int) (vs : List Int) (x : Nat) : Bool := (List.range vs.length).all fun y => Pr os D vs x y == 0
/-- The elements of the radical below k. -/
def radL (os : List Int) (D : Int) (vs : List Int) (k : Nat) : List Int := ((List.range k).filter fun x => radB os D vs x).map fun (x : Nat) => (x : Int)
theorem radL_t {os vs : List Int} {D : Int} {k : Nat} (h : radB os D vs k = true) : radL os D vs (k + 1) = radL os D vs k ++ [(k : Int)] := by
 unfold radL; rw [List.range_succ, List.filter_append, List.map_append]; simp [h]
theorem radL_f {os vs : List Int} {D : Int} {k : Nat} (h : radB os D vs k = false) : radL os D vs (k + 1) = radL os D vs k := by
 unfold radL; rw [List.range_succ, List.filter_append, List.map_append]; simp [h]
theorem radL_len (os vs : List Int) (D : Int) (k : Nat) : (radL os D vs k).length ≤ k := by
 unfold radL; rw [List.length_map]; exact Nat.le_trans (List.length_filter_le _ _) (by simp)
theorem radB_f {os vs : List Int} {D : Int} {x y : Nat} (hy : y < vs.length) (h : Pr os D vs x y ≠ 0) : radB os D vs x = false := by
 refine Bool.eq_false_iff.2 fun ha => h ?_
 have := List.all_eq_true.1 ha y (List.mem_range.2 hy)
 simpa using this
theorem radB_t {os vs : List Int} {D : Int} {x : Nat} (h : ∀ y, y < vs.length → Pr os D vs x y = 0) : radB os D vs x = true :=
 List.all_eq_true.2 fun y hy => by simpa using h y (List.mem_range.1 hy)
theorem radL_rng {os vs : List Int} {D : Int} {k : Nat} (hk : k ≤ 1048576) : ∀ x ∈ radL os D vs k, i64ok x := by
 intro x hx
 unfold radL at hx
 obtain ⟨j, hj, rfl⟩ := List.mem_map.1 hx
 have := List.mem_range.1 (List.mem_filter.1 hj).1
 exact ⟨by omega, by omega⟩

set_option maxHeartbeats 2000000 in
theorem radical_any (w : World) (A : Option Addr) (n c : Nat) (os : List Int) (D : Int) (A' : Option Addr) (n' c' : Nat) (vs : List Int)
  (h : Sl w w.heap.size A n c os) (h' : Sl w w.heap.size A' n' c' vs) (hok : OkM os D vs) :
  Calls Tryz.prog 72 #[.agg #[.slice A n c, .int .i64 D, .slice A' n' c']] w (Mk w (radL os D vs vs.length)) := by
 obtain rfl := h'.len
 have hG := hok.g
 have hL := hide hok.len
 have hn16 := hok.lt
 go_enter Tryz.func72, Tryz.ntmps72
 go_wp2_with fail
 obtain ⟨W, hW⟩ : ∃ W, w.alloc (.cells #[.slice A n c, .int .i64 D, .slice A' vs.length c'] 26) = W := ⟨_, rfl⟩
 have hbW : Below w.heap.size w W := by rw [← hW]; exact (by repeat (first | assumption | exact Below.refl _ _ | apply below_drewN | apply Below.drew | apply Below.alloc | apply Below.setCell | omega | (focus (simp; done)) | (focus (simp; omega))))
 have hszW : w.heap.size < W.heap.size := by rw [← hW]; simp
 have hsW := hide (show W.heap.size = w.heap.size + 1 by rw [← hW]; simp)
 have bM : Blk W w.heap.size 26 #[.slice A n c, .int .i64 D, .slice A' vs.length c'] := by rw [← hW]; exact Blk.new _ _ _
 have q0 : W.cell? ⟨w.heap.size, 0, none⟩ = some (.slice A n c) := by rw [← hW]; exact (Blk.new _ _ _).cell 0
 have q1 : W.cell? ⟨w.heap.size, 1, none⟩ = some (.int .i64 D) := by rw [← hW]; exact (Blk.new _ _ _).cell 1
 have q2 : W.cell? ⟨w.heap.size, 2, none⟩ = some (.slice A' vs.length c') := by rw [← hW]; exact (Blk.new _ _ _).cell 2
 rw [hW]
 clear hW
 have hs := (h.below hbW).more (Nat.le_of_lt hszW)
 have hs' := (h'.below hbW).more (Nat.le_of_lt hszW)
 have hsl : ∀ wd, Below W.heap.size W wd → Sl wd wd.heap.size A n c os := fun wd h => (hs.below h).more h.size
 have hsv : ∀ wd, Below W.heap.size W wd → Sl wd wd.heap.size A' vs.length c' vs := fun wd h => (hs'.below h).more h.size
 refine (size_any _ _ _ _ _ _).mono ?_
 rintro e w2 ⟨rfl, hb2⟩
 have hB2 : Below W.heap.size W w2 := Below.trans ((Below.refl _ _).alloc (Nat.le_refl _) _) (hb2.mono (by simp))
 have hO2 : Ow w2 W.heap.size (.slice (some ⟨w.heap.size + 1, 0, none⟩) 0 0) [] := (Ow.made' (xs := []) W #[] (w.heap.size + 1) 0 hsW.out rfl (by rw [hsW.out]; omega) rfl (by unfold maxLen; omega)).below hb2
 have hR0 : radL os D vs 0 = [] := rfl
 have HR0 := hide hR0
 clear hR0 hb2
 go_wp2_with fail
 go_loopw [3, 10] (fun o i wr => ∃ (k : Nat) (vv : Value), k ≤ vs.length ∧ i = .int .i64 k ∧ vv = o ∧ Ow wr W.heap.size vv (radL os D vs k) ∧ Below W.heap.size W wr) (fun _ i _ => vs.length - (intOf i).toNat)
 case atStart => exact ⟨0, _, by omega, rfl, rfl, by rw [HR0.out]; exact hO2, hB2⟩
 case round =>
  clear hO2 hB2
  obtain ⟨k, vv, hk, rfl, rfl, hO, hBe⟩ := hrel
  by_cases hlt : k < vs.length
  ·have hk16 : (k : Int) < prodL os := by have := hL.out; omega
   have r0 := (hBe.cell (p := ⟨w.heap.size, 0, none⟩) hszW).trans q0
   have r1 := (hBe.cell (p := ⟨w.heap.size, 1, none⟩) hszW).trans q1
   have r2 := (hBe.cell (p := ⟨w.heap.size, 2, none⟩) hszW).trans q2
   go_wp2_with fail
   clear r0 r1 r2
   refine (size_any _ _ _ _ _ _).mono ?_
   rintro e w2 ⟨rfl, hb2⟩
   replace hBe := hBe.trans (hb2.mono hBe.size)
   replace hO := hO.below hb2
   clear hb2
   go_wp2_with fail
   go_loopw [5, 15] (fun g i wr => ∃ (y : Nat) (b : Bool), y ≤ vs.length ∧ i = .int .i64 y ∧ g = .bool b ∧ (b = true → ∀ j, j < y → Pr os D vs k j = 0) ∧ (b = false → radB os D vs k = false) ∧ Ow wr W.heap.size vv (radL os D vs k) ∧ Below W.heap.size W wr) (fun _ i _ => vs.length - (intOf i).toNat)
   case atStart => exact ⟨0, true, by omega, rfl, rfl, fun _ j hj => absurd hj (by omega), (fun h => by cases h), hO, hBe⟩
   case round =>
    clear hO hBe
    obtain ⟨y, b, hy, rfl, rfl, hb1, hb2, hO, hBe⟩ := hrel
    cases b with
    | false =>
     have hF0 := hide (hb2 rfl)
     have hF := hide (radL_f hF0.out)
     clear hb1 hb2
     have r0 := (hBe.cell (p := ⟨w.heap.size, 0, none⟩) hszW).trans q0
     have r1 := (hBe.cell (p := ⟨w.heap.size, 1, none⟩) hszW).trans q1
     have r2 := (hBe.cell (p := ⟨w.heap.size, 2, none⟩) hszW).trans q2
     by_cases hly : y < vs.length
     ·go_wp2_with fail
      go_roundw
      case rel => exact ⟨y + 1, false, by omega, by go_num, rfl, (fun h => by cases h), fun _ => hF0.out, hO, hBe⟩
      case measure => simp [intOf] <;> omega
     ·go_wp2_with fail
      go_roundw
      case rel => exact ⟨k + 1, vv, by omega, by go_num, rfl, by rw [hF.out]; exact hO, hBe⟩
      case measure => simp [intOf] <;> omega
    | true =>
     have hP := hide (hb1 rfl)
     clear hb1 hb2
     by_cases hly : y < vs.length
     ·have hy16 : (y : Int) < prodL os := by have := hL.out; omega
      obtain ⟨p, ep⟩ : ∃ p, Pr os D vs k y = p := ⟨_, rfl⟩
      have hpc := fun W' a b => pair_any W' A n c os D A' vs.length c' vs k y a b hok hk16 hy16
      rw [ep] at hpc
      have r0 := (hBe.cell (p := ⟨w.heap.size, 0, none⟩) hszW).trans q0
      have r1 := (hBe.cell (p := ⟨w.heap.size, 1, none⟩) hszW).trans q1
      have r2 := (hBe.cell (p := ⟨w.heap.size, 2, none⟩) hszW).trans q2
      by_cases hz : p = 0
      ·have hzb : (p == 0) = true := by simpa using hz
       have hEP := hide (ep.trans hz)
       clear ep hz
       go_wp2_with fail
       clear r0 r1 r2
       refine (hpc _ (hsl _ hBe) (hsv _ hBe)).mono ?_
       rintro e w3 ⟨rfl, hb3⟩
       have hBe2 := hBe.trans (hb3.mono hBe.size)
       have hO2 := hO.below hb3
       go_wp2_with fail
       go_roundw
       case rel => exact ⟨y + 1, true, by omega, by go_num, rfl, fun _ j hj => by rcases Nat.lt_succ_iff_lt_or_eq.1 hj with h | rfl; exact hP.out j h; exact hEP.out, (fun h => by cases h), hO2, hBe2⟩
       case measure => simp [intOf] <;> omega
      ·have hzb : (p == 0) = false := by simpa using hz
       have hF := hide (radB_f hly (by rw [ep]; exact hz))
       clear ep hz
       go_wp2_with fail
       clear r0 r1 r2
       refine (hpc _ (hsl _ hBe) (hsv _ hBe)).mono ?_
       rintro e w3 ⟨rfl, hb3⟩
       have hBe2 := hBe.trans (hb3.mono hBe.size)
       have hO2 := hO.below hb3
       go_wp2_with fail
       go_roundw
       case rel => exact ⟨y + 1, false, by omega, by go_num, rfl, (fun h => by cases h), fun _ => hF.out, hO2, hBe2⟩
       case measure => simp [intOf] <;> omega
     ·obtain rfl : y = vs.length := by omega
      have hT := hide (radL_t (radB_t hP.out))
      have hll := radL_len os vs D k
      go_wp2_with (at_builtin; refine list_push _ rfl _ _ rfl W.heap.size vv _ rfl (hO.alloc _) k wr.heap.size _ rfl (Blk.new _ _ _) (by omega) (by have := hBe.size; simp; omega) (by simp) ?_; intro g cap w4 hP4)
      go_roundw
      case rel => exact ⟨k + 1, _, by omega, by go_num, rfl, by rw [hT.out]; exact hP4.own, (hBe.alloc hBe.size _).trans (hP4.below (hO.alloc _) (by have := hBe.size; simp; omega))⟩
      case measure => simp [intOf] <;> omega
  ·obtain rfl : k = vs.length := by omega
   go_wp2_with fail
   go_ret
   exact ⟨vv, rfl, hO.less (Nat.le_of_lt hszW), hbW.trans (hBe.mono (Nat.le_of_lt hszW))⟩

noncomputable def ndgM (os : List Int) (D : Int) (vs : List Int) : Bool := isM os D vs && decide ((radL os D vs vs.length).length = 1)
set_option maxHeartbeats 1000000 in
theorem impl_Ndg_any (w : World) (A : Option Addr) (n c : Nat) (os : List Int) (D : Int) (A' : Option Addr) (n' c' : Nat) (vs : List Int) (h : Sl w w.heap.size A n c os) (h' : Sl w w.heap.size A' n' c' vs) (hn : n ≤ 1048576) (hn' : n' ≤ 1048576) :
  Calls Tryz.prog 31 #[.agg #[.slice A n c, .int .i64 D, .slice A' n' c']] w (ReB w (ndgM os D vs) (codeM os D vs)) := by
 obtain rfl := h'.len
 cases hm : isM os D vs with
 | false =>
  have hC := hide (show codeM os D vs = 1 by unfold codeM; rw [hm]; rfl)
  have hR := hide (show ndgM os D vs = false by unfold ndgM; rw [hm]; rfl)
  go_enter Tryz.func31, Tryz.ntmps31
  go_wp2_with fail
  obtain ⟨W, hW⟩ : ∃ W, w.alloc (.cells #[.slice A n c, .int .i64 D, .slice A' vs.length c'] 26) = W := ⟨_, rfl⟩
  have hbW : Below w.heap.size w W := by rw [← hW]; exact (by repeat (first | assumption | exact Below.refl _ _ | apply below_drewN | apply Below.drew | apply Below.alloc | apply Below.setCell | omega | (focus (simp; done)) | (focus (simp; omega))))
  have hszW : w.heap.size < W.heap.size := by rw [← hW]; simp
  have hsW := hide (show W.heap.size = w.heap.size + 1 by rw [← hW]; simp)
  have bM : Blk W w.heap.size 26 #[.slice A n c, .int .i64 D, .slice A' vs.length c'] := by rw [← hW]; exact Blk.new _ _ _
  have q0 : W.cell? ⟨w.heap.size, 0, none⟩ = some (.slice A n c) := by rw [← hW]; exact (Blk.new _ _ _).cell 0
  have q1 : W.cell? ⟨w.heap.size, 1, none⟩ = some (.int .i64 D) := by rw [← hW]; exact (Blk.new _ _ _).cell 1
  have q2 : W.cell? ⟨w.heap.size, 2, none⟩ = some (.slice A' vs.length c') := by rw [← hW]; exact (Blk.new _ _ _).cell 2
  rw [hW]
  clear hW
  have hs := (h.below hbW).more (Nat.le_of_lt hszW)
  have hs' := (h'.below hbW).more (Nat.le_of_lt hszW)
  go_wp2_with fail
  refine (implIs_v false _ _ _ _ _ _ _ _ _ _ hs hs' hn hn' hm).mono ?_
  rintro e w2 ⟨rfl, hb2⟩
  go_wp2_with fail
  refine bodyPost_ret (v := .tuple #[.bool false, .int .i64 1]) (by simp [results, Tryz.results31, go_sem]) rfl ?_
  exact ⟨by rw [hC.out, hR.out], hbW.trans (hb2.mono (Nat.le_of_lt hszW))⟩
 | true =>
  have hM := isM_iff.1 hm
  have hC := hide (show codeM os D vs = 0 by unfold codeM; rw [hm]; rfl)
  obtain ⟨L, hL⟩ : ∃ L, radL os D vs vs.length = L := ⟨_, rfl⟩
  have hR := hide (show ndgM os D vs = decide (L.length = 1) by unfold ndgM; rw [hm, hL]; rfl)
  have hlr : ∀ x ∈ L, i64ok x := by rw [← hL]; exact radL_rng hn'
  have HLR := hide hlr
  clear hlr
  have hcall := fun W a b => radical_any W A n c os D A' vs.length c' vs a b hM.ok
  rw [hL] at hcall
  clear hL
  go_enter Tryz.func31, Tryz.ntmps31
  go_wp2_with fail
  obtain ⟨W, hW⟩ : ∃ W, w.alloc (.cells #[.slice A n c, .int .i64 D, .slice A' vs.length c'] 26) = W := ⟨_, rfl⟩
  have hbW : Below w.heap.size w W := by rw [← hW]; exact (by repeat (first | assumption | exact Below.refl _ _ | apply below_drewN | apply Below.drew | apply Below.alloc | apply Below.setCell | omega | (focus (simp; done)) | (focus (simp; omega))))
  have hszW : w.heap.size < W.heap.size := by rw [← hW]; simp
  have hsW := hide (show W.heap.size = w.heap.size + 1 by rw [← hW]; simp)
  have bM : Blk W w.heap.size 26 #[.slice A n c, .int .i64 D, .slice A' vs.length c'] := by rw [← hW]; exact Blk.new _ _ _
  have q0 : W.cell? ⟨w.heap.size, 0, none⟩ = some (.slice A n c) := by rw [← hW]; exact (Blk.new _ _ _).cell 0
  have q1 : W.cell? ⟨w.heap.size, 1, none⟩ = some (.int .i64 D) := by rw [← hW]; exact (Blk.new _ _ _).cell 1
  have q2 : W.cell? ⟨w.heap.size, 2, none⟩ = some (.slice A' vs.length c') := by rw [← hW]; exact (Blk.new _ _ _).cell 2
  rw [hW]
  clear hW
  have hs := (h.below hbW).more (Nat.le_of_lt hszW)
  have hs' := (h'.below hbW).more (Nat.le_of_lt hszW)
  go_wp2_with fail
  refine (implIs_v true _ _ _ _ _ _ _ _ _ _ hs hs' hn hn' hm).mono ?_
  rintro e w2 ⟨rfl, hb2⟩
  have r0 := (hb2.cell (p := ⟨w.heap.size, 0, none⟩) hszW).trans q0
  have r1 := (hb2.cell (p := ⟨w.heap.size, 1, none⟩) hszW).trans q1
  have r2 := (hb2.cell (p := ⟨w.heap.size, 2, none⟩) hszW).trans q2
  go_wp2_with fail
  clear r0 r1 r2
  refine (hcall _ ((hs.below hb2).more hb2.size) ((hs'.below hb2).more hb2.size)).mono ?_
  rintro e w3 ⟨v, rfl, hO, hb3⟩
  obtain ⟨G, cg, rfl, sg⟩ := hO.sl HLR.out
  have hb2s := hb2.size
  by_cases h1 : L.length = 1
  ·have h1b : ((L.length : Int) == 1) = true := by rw [beq_iff_eq]; omega
   have hR2 := hide (show ndgM os D vs = true by rw [hR.out]; simp [h1])
   have h1' := hide h1
   clear h1
   go_wp2_with fail
   refine bodyPost_ret (v := .tuple #[.bool true, .int .i64 0]) (by simp [results, Tryz.results31, go_sem]) rfl ?_
   exact ⟨by rw [hC.out, hR2.out], hbW.trans ((hb2.trans (hb3.mono hb2s)).mono (Nat.le_of_lt hszW))⟩
  ·have h1b : ((L.length : Int) == 1) = false := by rw [beq_eq_false_iff_ne]; omega
   have hR2 := hide (show ndgM os D vs = false by rw [hR.out]; simp [h1])
   have h1' := hide h1
   clear h1
   go_wp2_with fail
   refine bodyPost_ret (v := .tuple #[.bool false, .int .i64 0]) (by simp [results, Tryz.results31, go_sem]) rfl ?_
   exact ⟨by rw [hC.out, hR2.out], hbW.trans ((hb2.trans (hb3.mono hb2s)).mono (Nat.le_of_lt hszW))⟩

/-- x pairs to 0 with all elements of a list. -/
def ortB (os : List Int) (D : Int) (vs xs : List Int) (x : Nat) : Bool := xs.all fun y => Pr os D vs x y == 0
/-- The elements below k that are orthogonal to a list. -/
def ortL (os : List Int) (D : Int) (vs xs : List Int) (k : Nat) : List Int := ((List.range k).filter fun x => ortB os D vs xs x).map fun (x : Nat) => (x : Int)
theorem ortL_t {os vs xs : List Int} {D : Int} {k : Nat} (h : ortB os D vs xs k = true) : ortL os D vs xs (k + 1) = ortL os D vs xs k ++ [(k : Int)] := by
 unfold ortL; rw [List.range_succ, List.filter_append, List.map_append]; simp [h]
theorem ortL_f {os vs xs : List Int} {D : Int} {k : Nat} (h : ortB os D vs xs k = false) : ortL os D vs xs (k + 1) = ortL os D vs xs k := by
 unfold ortL; rw [List.range_succ, List.filter_append, List.map_append]; simp [h]
theorem ortL_len (os vs xs : List Int) (D : Int) (k : Nat) : (ortL os D vs xs k).length ≤ k := by
 unfold ortL; rw [List.length_map]; exact Nat.le_trans (List.length_filter_le _ _) (by simp)
theorem ortL_mem {os vs xs : List Int} {D : Int} {k : Nat} : ∀ x ∈ ortL os D vs xs k, 0 ≤ x ∧ x < k := by
 intro x hx
 unfold ortL at hx
 obtain ⟨j, hj, rfl⟩ := List.mem_map.1 hx
 have := List.mem_range.1 (List.mem_filter.1 hj).1
 exact ⟨by omega, by omega⟩

set_option maxHeartbeats 2000000 in
theorem l11Orthogonal_any (w : World) (A : Option Addr) (n c : Nat) (os : List Int) (D : Int) (A' : Option Addr) (n' c' : Nat) (vs : List Int) (L : Option Addr) (l lc : Nat) (xs : List Int)
  (h : Sl w w.heap.size A n c os) (h' : Sl w w.heap.size A' n' c' vs) (hx : Sl w w.heap.size L l lc xs) (hl : l ≤ 1048576) (hok : OkM os D vs) (hI : ∀ x ∈ xs, 0 ≤ x ∧ x < prodL os) :
  Calls Tryz.prog 81 #[.agg #[.slice A n c, .int .i64 D, .slice A' n' c'], .slice L l lc] w (Mk w (ortL os D vs xs vs.length)) := by
 obtain rfl := h'.len
 obtain rfl := hx.len
 have hG := hok.g
 have hL := hide hok.len
 have hn16 := hok.lt
 have HI := hide hI
 clear hI
 go_enter Tryz.func81, Tryz.ntmps81
 go_wp2_with fail
 obtain ⟨W, hW⟩ : ∃ W, w.alloc (.cells #[.slice A n c, .int .i64 D, .slice A' vs.length c'] 26) = W := ⟨_, rfl⟩
 have hbW : Below w.heap.size w W := by rw [← hW]; exact (by repeat (first | assumption | exact Below.refl _ _ | apply below_drewN | apply Below.drew | apply Below.alloc | apply Below.setCell | omega | (focus (simp; done)) | (focus (simp; omega))))
 have hszW : w.heap.size < W.heap.size := by rw [← hW]; simp
 have hsW := hide (show W.heap.size = w.heap.size + 1 by rw [← hW]; simp)
 have bM : Blk W w.heap.size 26 #[.slice A n c, .int .i64 D, .slice A' vs.length c'] := by rw [← hW]; exact Blk.new _ _ _
 have q0 : W.cell? ⟨w.heap.size, 0, none⟩ = some (.slice A n c) := by rw [← hW]; exact (Blk.new _ _ _).cell 0
 have q1 : W.cell? ⟨w.heap.size, 1, none⟩ = some (.int .i64 D) := by rw [← hW]; exact (Blk.new _ _ _).cell 1
 have q2 : W.cell? ⟨w.heap.size, 2, none⟩ = some (.slice A' vs.length c') := by rw [← hW]; exact (Blk.new _ _ _).cell 2
 rw [hW]
 clear hW
 have hs := (h.below hbW).more (Nat.le_of_lt hszW)
 have hs' := (h'.below hbW).more (Nat.le_of_lt hszW)
 have hxs := hx.below hbW
 have hsl : ∀ wd, Below W.heap.size W wd → Sl wd wd.heap.size A n c os := fun wd h => (hs.below h).more h.size
 have hsv : ∀ wd, Below W.heap.size W wd → Sl wd wd.heap.size A' vs.length c' vs := fun wd h => (hs'.below h).more h.size
 have hB2 : Below W.heap.size W (W.alloc (.cells #[] 2)) := (Below.refl _ _).alloc (Nat.le_refl _) _
 have hO2 : Ow (W.alloc (.cells #[] 2)) W.heap.size (.slice (some ⟨w.heap.size + 1, 0, none⟩) 0 0) [] := Ow.made' (xs := []) W #[] (w.heap.size + 1) 0 hsW.out rfl (by rw [hsW.out]; omega) rfl (by unfold maxLen; omega)
 have HR0 := hide (show ortL os D vs xs 0 = [] from rfl)
 go_wp2_with fail
 go_loopw [5, 6] (fun o i wr => ∃ (k : Nat) (vv : Value), k ≤ vs.length ∧ i = .int .i64 k ∧ vv = o ∧ Ow wr W.heap.size vv (ortL os D vs xs k) ∧ Below W.heap.size W wr) (fun _ i _ => vs.length - (intOf i).toNat)
 case atStart => exact ⟨0, _, by omega, rfl, rfl, by rw [HR0.out]; exact hO2, hB2⟩
 case round =>
  clear hO2 hB2
  obtain ⟨k, vv, hk, rfl, rfl, hO, hBe⟩ := hrel
  have r0 := (hBe.cell (p := ⟨w.heap.size, 0, none⟩) hszW).trans q0
  have r1 := (hBe.cell (p := ⟨w.heap.size, 1, none⟩) hszW).trans q1
  have r2 := (hBe.cell (p := ⟨w.heap.size, 2, none⟩) hszW).trans q2
  go_wp2_with fail
  clear r0 r1 r2
  refine ((l10Size_any _ _ _ _ _ _ (hsl _ hBe) hG).mono fun _ _ h => Qt.re h).mono ?_
  rw [← hL.out]
  rintro e w2 ⟨rfl, hb2⟩
  replace hBe := hBe.trans (hb2.mono hBe.size)
  replace hO := hO.below hb2
  clear hb2
  by_cases hlt : k < vs.length
  ·have hk16 : (k : Int) < prodL os := by have := hL.out; omega
   go_wp2_with fail
   go_loopw [7, 8] (fun g i wr => ∃ (y : Nat) (b : Bool), y ≤ xs.length ∧ i = .int .i64 y ∧ g = .bool b ∧ (b = true → ∀ j, j < y → (Pr os D vs k (gi xs j) == 0) = true) ∧ (b = false → ortB os D vs xs k = false) ∧ Ow wr W.heap.size vv (ortL os D vs xs k) ∧ Below W.heap.size W wr) (fun _ i _ => xs.length - (intOf i).toNat)
   case atStart => exact ⟨0, true, by omega, rfl, rfl, fun _ j hj => absurd hj (by omega), (fun h => by cases h), hO, hBe⟩
   case round =>
    clear hO hBe
    obtain ⟨y, b, hy, rfl, rfl, hb1, hb2, hO, hBe⟩ := hrel
    cases b with
    | false =>
     have hF := hide (ortL_f (hb2 rfl))
     clear hb1 hb2
     by_cases hly : y < xs.length
     all_goals
      go_wp2_with fail
      go_roundw
      case rel => exact ⟨k + 1, vv, by omega, by go_num, rfl, by rw [hF.out]; exact hO, hBe⟩
      case measure => simp [intOf] <;> omega
    | true =>
     have hP := hide (hb1 rfl)
     clear hb1 hb2
     by_cases hly : y < xs.length
     ·obtain ⟨b, off, rfl, hb, hc⟩ := hxs.at_ (by omega)
      have c1 := hc y hly
      have hbG : b < W.heap.size := by omega
      clear hc
      obtain ⟨x0, x1⟩ := HI.out _ (gi_mem hly)
      obtain ⟨x, ex⟩ : ∃ x : Nat, gi xs y = (x : Int) := ⟨(gi xs y).toNat, by omega⟩
      rw [ex] at c1 x0 x1
      have hEX := hide ex
      clear ex
      obtain ⟨p, ep⟩ : ∃ p, Pr os D vs k x = p := ⟨_, rfl⟩
      have hpc := fun W' a b => l10Pair_any W' A n c os D A' vs.length c' vs k x a b hok hk16 x1
      rw [ep] at hpc
      have i0 : 0 ≤ (y : Int) := by omega
      have i1 : (y : Int) < (xs.length : Int) := by omega
      by_cases hz : p = 0
      ·have hzb : (p == 0) = true := by simpa using hz
       have hEP := hide (show (Pr os D vs k (gi xs y) == 0) = true by rw [hEX.out, ep]; exact hzb)
       clear ep hz
       go_wp2_with fail
       have hB0 := hBe
       have hz0 : w.heap.size < wr.heap.size := Nat.lt_of_lt_of_le hszW hB0.size
       have hbR : b < wr.heap.size := by have := hB0.size; omega
       have y0 := (hB0.cell (p := ⟨w.heap.size, 0, none⟩) hszW).trans q0
       have y1 := (hB0.cell (p := ⟨w.heap.size, 1, none⟩) hszW).trans q1
       have y2 := (hB0.cell (p := ⟨w.heap.size, 2, none⟩) hszW).trans q2
       have c2 := (hB0.cell (p := ⟨b, off + y, none⟩) hbG).trans c1
       refine wp_region_be [0, 1, 2, 3, 4, 5, 6, 7, 8] 8 wr.heap.size wr (by kernel_rfl) (by kernel_rfl) (by kernel_rfl) (fun _ _ _ _ _ h => h) (Below.refl _ _) (fun wd hBe => ?_)
       repeat (first | (apply ord_tk rfl (by rfl) (by rfl) (by rfl); (focus (intro wx hSw; have r0 := (hSw.cell (p := ⟨w.heap.size, 0, none⟩) hz0).trans y0; have r1 := (hSw.cell (p := ⟨w.heap.size, 1, none⟩) hz0).trans y1; have r2 := (hSw.cell (p := ⟨w.heap.size, 2, none⟩) hz0).trans y2; have r3 := (hSw.cell (p := ⟨b, off + y, none⟩) hbR).trans c2; go_simp; (try with_reducible rfl))); (try simp only [Act.put, List.setIfInBounds_toArray, List.set_cons_zero, List.set_cons_succ])) | (apply ord_skip rfl (by rfl) (by rfl) (fun _ => hBe); (try simp only [Act.put, List.setIfInBounds_toArray, List.set_cons_zero, List.set_cons_succ])))
       refine ord_do rfl (by rfl) (by rfl) (fun K hK => ?_)
       go_simp
       refine (hpc _ (hsl _ (hB0.trans (hBe.mono hB0.size))) (hsv _ (hB0.trans (hBe.mono hB0.size)))).mono ?_
       rintro e wd' ⟨rfl, hwd⟩
       replace hBe := hBe.trans (hwd.mono hBe.size)
       clear hwd
       refine hK.out _ _ (fun _ => hBe) ?_
       (try simp only [Act.put, List.setIfInBounds_toArray, List.set_cons_zero, List.set_cons_succ])
       clear hK K
       repeat (first | (apply ord_tk rfl (by rfl) (by rfl) (by rfl); (focus (intro wx hSw; have r0 := (hSw.cell (p := ⟨w.heap.size, 0, none⟩) hz0).trans y0; have r1 := (hSw.cell (p := ⟨w.heap.size, 1, none⟩) hz0).trans y1; have r2 := (hSw.cell (p := ⟨w.heap.size, 2, none⟩) hz0).trans y2; have r3 := (hSw.cell (p := ⟨b, off + y, none⟩) hbR).trans c2; go_simp; (try with_reducible rfl))); (try simp only [Act.put, List.setIfInBounds_toArray, List.set_cons_zero, List.set_cons_succ])) | (apply ord_skip rfl (by rfl) (by rfl) (fun _ => hBe); (try simp only [Act.put, List.setIfInBounds_toArray, List.set_cons_zero, List.set_cons_succ])))
       refine ord_do rfl (by rfl) (by rfl) (fun K hK => ?_)
       go_simp
       refine hK.out _ _ (fun h => absurd h (by omega)) ?_
       (try simp only [Act.put, List.setIfInBounds_toArray, List.set_cons_zero, List.set_cons_succ])
       clear hK K
       refine ord_nil ?_
       replace hO := hO.below hBe
       replace hBe := hB0.trans (hBe.mono hB0.size)
       go_wp2_with fail
       go_roundw
       case rel => exact ⟨y + 1, true, by omega, by go_num, rfl, fun _ j hj => by rcases Nat.lt_succ_iff_lt_or_eq.1 hj with h | rfl; exact hP.out j h; exact hEP.out, (fun h => by cases h), hO, hBe⟩
       case measure => simp [intOf] <;> omega
      ·have hzb : (p == 0) = false := by simpa using hz
       have hF := hide (show ortB os D vs xs k = false from all_f hly (by rw [hEX.out, ep]; exact hzb))
       clear ep hz
       go_wp2_with fail
       have hB0 := hBe
       have hz0 : w.heap.size < wr.heap.size := Nat.lt_of_lt_of_le hszW hB0.size
       have hbR : b < wr.heap.size := by have := hB0.size; omega
       have y0 := (hB0.cell (p := ⟨w.heap.size, 0, none⟩) hszW).trans q0
       have y1 := (hB0.cell (p := ⟨w.heap.size, 1, none⟩) hszW).trans q1
       have y2 := (hB0.cell (p := ⟨w.heap.size, 2, none⟩) hszW).trans q2
       have c2 := (hB0.cell (p := ⟨b, off + y, none⟩) hbG).trans c1
       refine wp_region_be [0, 1, 2, 3, 4, 5, 6, 7, 8] 8 wr.heap.size wr (by kernel_rfl) (by kernel_rfl) (by kernel_rfl) (fun _ _ _ _ _ h => h) (Below.refl _ _) (fun wd hBe => ?_)
       repeat (first | (apply ord_tk rfl (by rfl) (by rfl) (by rfl); (focus (intro wx hSw; have r0 := (hSw.cell (p := ⟨w.heap.size, 0, none⟩) hz0).trans y0; have r1 := (hSw.cell (p := ⟨w.heap.size, 1, none⟩) hz0).trans y1; have r2 := (hSw.cell (p := ⟨w.heap.size, 2, none⟩) hz0).trans y2; have r3 := (hSw.cell (p := ⟨b, off + y, none⟩) hbR).trans c2; go_simp; (try with_reducible rfl))); (try simp only [Act.put, List.setIfInBounds_toArray, List.set_cons_zero, List.set_cons_succ])) | (apply ord_skip rfl (by rfl) (by rfl) (fun _ => hBe); (try simp only [Act.put, List.setIfInBounds_toArray, List.set_cons_zero, List.set_cons_succ])))
       refine ord_do rfl (by rfl) (by rfl) (fun K hK => ?_)
       go_simp
       refine (hpc _ (hsl _ (hB0.trans (hBe.mono hB0.size))) (hsv _ (hB0.trans (hBe.mono hB0.size)))).mono ?_
       rintro e wd' ⟨rfl, hwd⟩
       replace hBe := hBe.trans (hwd.mono hBe.size)
       clear hwd
       refine hK.out _ _ (fun _ => hBe) ?_
       (try simp only [Act.put, List.setIfInBounds_toArray, List.set_cons_zero, List.set_cons_succ])
       clear hK K
       repeat (first | (apply ord_tk rfl (by rfl) (by rfl) (by rfl); (focus (intro wx hSw; have r0 := (hSw.cell (p := ⟨w.heap.size, 0, none⟩) hz0).trans y0; have r1 := (hSw.cell (p := ⟨w.heap.size, 1, none⟩) hz0).trans y1; have r2 := (hSw.cell (p := ⟨w.heap.size, 2, none⟩) hz0).trans y2; have r3 := (hSw.cell (p := ⟨b, off + y, none⟩) hbR).trans c2; go_simp; (try with_reducible rfl))); (try simp only [Act.put, List.setIfInBounds_toArray, List.set_cons_zero, List.set_cons_succ])) | (apply ord_skip rfl (by rfl) (by rfl) (fun _ => hBe); (try simp only [Act.put, List.setIfInBounds_toArray, List.set_cons_zero, List.set_cons_succ])))
       refine ord_do rfl (by rfl) (by rfl) (fun K hK => ?_)
       go_simp
       refine hK.out _ _ (fun h => absurd h (by omega)) ?_
       (try simp only [Act.put, List.setIfInBounds_toArray, List.set_cons_zero, List.set_cons_succ])
       clear hK K
       refine ord_nil ?_
       replace hO := hO.below hBe
       replace hBe := hB0.trans (hBe.mono hB0.size)
       go_wp2_with fail
       go_roundw
       case rel => exact ⟨y + 1, false, by omega, by go_num, rfl, (fun h => by cases h), fun _ => hF.out, hO, hBe⟩
       case measure => simp [intOf] <;> omega
     ·obtain rfl : y = xs.length := by omega
      have hT := hide (ortL_t (show ortB os D vs xs k = true from all_t hP.out))
      have hll := ortL_len os vs xs D k
      go_wp2_with (at_builtin; refine list_push _ rfl _ _ rfl W.heap.size vv _ rfl (hO.alloc _) k wr.heap.size _ rfl (Blk.new _ _ _) (by omega) (by have := hBe.size; simp; omega) (by simp) ?_; intro g cap w4 hP4)
      go_roundw
      case rel => exact ⟨k + 1, _, by omega, by go_num, rfl, by rw [hT.out]; exact hP4.own, (hBe.alloc hBe.size _).trans (hP4.below (hO.alloc _) (by have := hBe.size; simp; omega))⟩
      case measure => simp [intOf] <;> omega
  ·obtain rfl : k = vs.length := by omega
   go_wp2_with fail
   go_ret
   exact ⟨vv, rfl, hO.less (Nat.le_of_lt hszW), hbW.trans (hBe.mono (Nat.le_of_lt hszW))⟩
theorem ort_index (W w : World) (A : Option Addr) (n c : Nat) (xs : List Int) (p : Int → Bool) (M X : Nat) (hx : Sl W W.heap.size A n c xs) (hn : n ≤ 1048576) (hw : Below W.heap.size W w)
  (hcall : ∀ k, k < xs.length → ∀ wd, Below W.heap.size W wd → Calls Tryz.prog 107 #[.int .i64 (gi xs k), .pointer (some ⟨M, 0, none⟩), .pointer (some ⟨X, 0, none⟩)] wd (Re wd (.bool (p (gi xs k))))) :
  Calls Tryz.prog 134 #[.slice A n c, .func (.func 107) #[] #[.pointer (some ⟨M, 0, none⟩), .pointer (some ⟨X, 0, none⟩)]] w (fun e w' => ∃ r : Int, e = .returned (.int .i64 r) ∧ decide (0 ≤ r) = xs.any p ∧ Below W.heap.size W w') := by
 obtain rfl := hx.len
 have HC := hide hcall
 clear hcall
 go_enter Tryz.func134, Tryz.ntmps134
 go_wp2_with fail
 go_loopw [8] (fun i wr => ∃ k : Nat, k ≤ xs.length ∧ i = .int .i64 k ∧ (∀ j, j < k → p (gi xs j) = false) ∧ Below W.heap.size W wr) (fun i _ => xs.length - (intOf i).toNat)
 case atStart => exact ⟨0, by omega, rfl, fun j hj => absurd hj (by omega), hw⟩
 case round =>
  clear hw
  obtain ⟨k, hk, rfl, hpre, hBe⟩ := hrel
  have hP := hide hpre
  clear hpre
  by_cases hlt : k < xs.length
  ·obtain ⟨b, off, rfl, hb, hc⟩ := hx.at_ (by omega)
   have c1 := (hBe.cell (p := ⟨b, off + k, none⟩) hb).trans (hc k hlt)
   clear hc
   have hcl := HC.out k hlt
   cases hv : p (gi xs k) with
   | true =>
    have hT := hide (show xs.any p = true from List.any_eq_true.2 ⟨_, gi_mem hlt, hv⟩)
    rw [hv] at hcl
    have HL := hide hcl
    clear hv hcl
    go_wp2_with fail
    clear c1
    refine (HL.out _ hBe).mono ?_
    rintro e w3 ⟨rfl, hb3⟩
    replace hBe := hBe.trans (hb3.mono hBe.size)
    clear hb3
    go_wp2_with fail
    go_ret
    exact ⟨k, rfl, by rw [hT.out]; simp, hBe⟩
   | false =>
    rw [hv] at hcl
    have HL := hide hcl
    have hv' := hide hv
    clear hv hcl
    go_wp2_with fail
    clear c1
    refine (HL.out _ hBe).mono ?_
    rintro e w3 ⟨rfl, hb3⟩
    replace hBe := hBe.trans (hb3.mono hBe.size)
    clear hb3
    go_wp2_with fail
    go_roundw
    case rel => exact ⟨k + 1, by omega, by go_num, fun j hj => by rcases Nat.lt_succ_iff_lt_or_eq.1 hj with h | rfl; exact hP.out j h; exact hv'.out, hBe⟩
    case measure => simp [intOf] <;> omega
  ·obtain rfl : k = xs.length := by omega
   have hT := hide (show xs.any p = false from by
    refine Bool.eq_false_iff.2 fun ha => ?_
    obtain ⟨x, hx, he⟩ := List.any_eq_true.1 ha
    obtain ⟨j, hj, rfl⟩ := List.getElem_of_mem hx
    rw [gi_ext hj, hP.out j hj] at he
    cases he)
   go_wp2
   go_ret
   exact ⟨-1, rfl, by rw [hT.out]; rfl, hBe⟩
theorem ort_contains (W w : World) (A : Option Addr) (n c : Nat) (xs : List Int) (p : Int → Bool) (M X : Nat) (hx : Sl W W.heap.size A n c xs) (hn : n ≤ 1048576) (hw : Below W.heap.size W w)
  (hcall : ∀ k, k < xs.length → ∀ wd, Below W.heap.size W wd → Calls Tryz.prog 107 #[.int .i64 (gi xs k), .pointer (some ⟨M, 0, none⟩), .pointer (some ⟨X, 0, none⟩)] wd (Re wd (.bool (p (gi xs k))))) :
  Calls Tryz.prog 92 #[.slice A n c, .func (.func 107) #[] #[.pointer (some ⟨M, 0, none⟩), .pointer (some ⟨X, 0, none⟩)]] w (fun e w' => e = .returned (.bool (xs.any p)) ∧ Below W.heap.size W w') := by
 have HI := hide (ort_index W w A n c xs p M X hx hn hw hcall)
 clear hcall
 go_enter Tryz.func92, Tryz.ntmps92
 go_wp2_with fail
 refine HI.out.mono ?_
 rintro e w' ⟨r, rfl, hr, hb⟩
 have hR := hide hr
 clear hr
 go_wp2
 go_ret
 exact ⟨by rw [← hR.out]; rfl, hb⟩
theorem ort_call (w : World) (M X : Nat) (A : Option Addr) (n c : Nat) (os : List Int) (D : Int) (A' : Option Addr) (n' c' : Nat) (vs : List Int) (x y : Nat) (hM : Blk w M 26 #[.slice A n c, .int .i64 D, .slice A' n' c']) (hX : Blk w X 2 #[.int .i64 x])
  (h : Sl w w.heap.size A n c os) (h' : Sl w w.heap.size A' n' c' vs) (hok : OkM os D vs) (hx : (x : Int) < prodL os) (hy : (y : Int) < prodL os) :
  Calls Tryz.prog 107 #[.int .i64 (y : Int), .pointer (some ⟨M, 0, none⟩), .pointer (some ⟨X, 0, none⟩)] w (Re w (.bool (Pr os D vs x y != 0))) := by
 have r0 := hM.cell 0
 have r1 := hM.cell 1
 have r2 := hM.cell 2
 have r3 := hX.cell 0
 have hp := pair_any w A n c os D A' n' c' vs x y h h' hok hx hy
 obtain ⟨p, ep⟩ : ∃ p, Pr os D vs x y = p := ⟨_, rfl⟩
 rw [ep] at hp ⊢
 clear ep
 go_enter Tryz.func107, Tryz.ntmps107
 go_wp2_with fail
 refine hp.mono ?_
 rintro e w3 ⟨rfl, hb3⟩
 go_wp2
 go_ret
 exact ⟨rfl, hb3⟩
set_option maxHeartbeats 2000000 in
theorem orthogonal_any (w : World) (A : Option Addr) (n c : Nat) (os : List Int) (D : Int) (A' : Option Addr) (n' c' : Nat) (vs : List Int) (L : Option Addr) (l lc : Nat) (xs : List Int)
  (h : Sl w w.heap.size A n c os) (h' : Sl w w.heap.size A' n' c' vs) (hx : Sl w w.heap.size L l lc xs) (hl : l ≤ 1048576) (hok : OkM os D vs) (hI : ∀ x ∈ xs, 0 ≤ x ∧ x < prodL os) :
  Calls Tryz.prog 58 #[.agg #[.slice A n c, .int .i64 D, .slice A' n' c'], .slice L l lc] w (Mk w (ortL os D vs xs vs.length)) := by
 obtain rfl := h'.len
 obtain rfl := hx.len
 have hG := hok.g
 have hL := hide hok.len
 have hn16 := hok.lt
 have HI := hide hI
 clear hI
 go_enter Tryz.func58, Tryz.ntmps58
 go_wp2_with fail
 obtain ⟨W, hW⟩ : ∃ W, w.alloc (.cells #[.slice A n c, .int .i64 D, .slice A' vs.length c'] 26) = W := ⟨_, rfl⟩
 have hbW : Below w.heap.size w W := by rw [← hW]; exact (by repeat (first | assumption | exact Below.refl _ _ | apply below_drewN | apply Below.drew | apply Below.alloc | apply Below.setCell | omega | (focus (simp; done)) | (focus (simp; omega))))
 have hszW : w.heap.size < W.heap.size := by rw [← hW]; simp
 have hsW := hide (show W.heap.size = w.heap.size + 1 by rw [← hW]; simp)
 have bM : Blk W w.heap.size 26 #[.slice A n c, .int .i64 D, .slice A' vs.length c'] := by rw [← hW]; exact Blk.new _ _ _
 have q0 : W.cell? ⟨w.heap.size, 0, none⟩ = some (.slice A n c) := by rw [← hW]; exact (Blk.new _ _ _).cell 0
 have q1 : W.cell? ⟨w.heap.size, 1, none⟩ = some (.int .i64 D) := by rw [← hW]; exact (Blk.new _ _ _).cell 1
 have q2 : W.cell? ⟨w.heap.size, 2, none⟩ = some (.slice A' vs.length c') := by rw [← hW]; exact (Blk.new _ _ _).cell 2
 rw [hW]
 clear hW
 have hs := (h.below hbW).more (Nat.le_of_lt hszW)
 have hs' := (h'.below hbW).more (Nat.le_of_lt hszW)
 have hxs := (hx.below hbW).more (Nat.le_of_lt hszW)
 have hsl : ∀ wd, Below W.heap.size W wd → Sl wd wd.heap.size A n c os := fun wd h => (hs.below h).more h.size
 have hsv : ∀ wd, Below W.heap.size W wd → Sl wd wd.heap.size A' vs.length c' vs := fun wd h => (hs'.below h).more h.size
 refine (size_any _ _ _ _ _ _).mono ?_
 rintro e w2 ⟨rfl, hb2⟩
 have hB2 : Below W.heap.size W w2 := Below.trans ((Below.refl _ _).alloc (Nat.le_refl _) _) (hb2.mono (by simp))
 have hO2 : Ow w2 W.heap.size (.slice (some ⟨w.heap.size + 1, 0, none⟩) 0 0) [] := (Ow.made' (xs := []) W #[] (w.heap.size + 1) 0 hsW.out rfl (by rw [hsW.out]; omega) rfl (by unfold maxLen; omega)).below hb2
 have HR0 := hide (show ortL os D vs xs 0 = [] from rfl)
 clear hb2
 go_wp2_with fail
 go_loopw [5, 10] (fun o i wr => ∃ (k : Nat) (vv : Value), k ≤ vs.length ∧ i = .int .i64 k ∧ vv = o ∧ Ow wr W.heap.size vv (ortL os D vs xs k) ∧ Below W.heap.size W wr) (fun _ i _ => vs.length - (intOf i).toNat)
 case atStart => exact ⟨0, _, by omega, rfl, rfl, by rw [HR0.out]; exact hO2, hB2⟩
 case round =>
  clear hO2 hB2
  obtain ⟨k, vv, hk, rfl, rfl, hO, hBe⟩ := hrel
  by_cases hlt : k < vs.length
  ·have hk16 : (k : Int) < prodL os := by have := hL.out; omega
   have hE := hide (show (!(xs.any fun y => Pr os D vs k y != 0)) = ortB os D vs xs k from any_not fun y _ => by simp [bne])
   go_wp2_with fail
   obtain ⟨wx, X, hX, hwx, hBx, hsub, bX, hXB⟩ := be_alloc hBe 2 #[.int .i64 k]
   rw [hwx, hX]
   clear hwx hX
   have hOx := hO.below hsub
   have bMx := bM.all hBx
   refine (ort_contains wx _ _ _ _ xs (fun y => Pr os D vs k y != 0) w.heap.size X ((hxs.below hBx).more hBx.size) hl (Below.refl _ _) ?_).mono ?_
   ·intro j hj wd hwd
    obtain ⟨y0, y1⟩ := HI.out _ (gi_mem hj)
    obtain ⟨y, ey⟩ : ∃ y : Nat, gi xs j = (y : Int) := ⟨(gi xs j).toNat, by omega⟩
    rw [ey] at y1 ⊢
    exact ort_call wd w.heap.size X A n c os D A' vs.length c' vs k y (bMx.all hwd) (bX.all hwd) (hsl _ (hBx.trans (hwd.mono hBx.size))) (hsv _ (hBx.trans (hwd.mono hBx.size))) hok hk16 y1
   ·rintro e w3 ⟨rfl, hb3⟩
    have hB3 := hBx.trans (hb3.mono hBx.size)
    have hO3 := hOx.below hb3
    have bX3 := bX.all hb3
    have x0 := bX3.cell 0
    cases hv : (xs.any fun y => Pr os D vs k y != 0) with
    | true =>
     have hF := hide (ortL_f (show ortB os D vs xs k = false by rw [← hE.out, hv]; rfl))
     clear hv
     go_wp2_with fail
     go_roundw
     case rel => exact ⟨k + 1, vv, by omega, by go_num, rfl, by rw [hF.out]; exact hO3, hB3⟩
     case measure => simp [intOf] <;> omega
    | false =>
     have hT := hide (ortL_t (show ortB os D vs xs k = true by rw [← hE.out, hv]; rfl))
     have hll := ortL_len os vs xs D k
     clear hv
     go_wp2_with (at_builtin; refine list_push _ rfl _ _ rfl W.heap.size vv _ rfl (hO3.alloc _) k w3.heap.size _ rfl (Blk.new _ _ _) (by omega) (by have := hB3.size; simp; omega) (by simp) ?_; intro g cap w4 hP4)
     go_roundw
     case rel => exact ⟨k + 1, _, by omega, by go_num, rfl, by rw [hT.out]; exact hP4.own, (hB3.alloc hB3.size _).trans (hP4.below (hO3.alloc _) (by have := hB3.size; simp; omega))⟩
     case measure => simp [intOf] <;> omega
  ·obtain rfl : k = vs.length := by omega
   go_wp2_with fail
   go_ret
   exact ⟨vv, rfl, hO.less (Nat.le_of_lt hszW), hbW.trans (hBe.mono (Nat.le_of_lt hszW))⟩
end Go.Proofs.YtbpihnpakolooaaGreatDoor
