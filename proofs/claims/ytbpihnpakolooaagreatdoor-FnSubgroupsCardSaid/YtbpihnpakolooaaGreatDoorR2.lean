
/- The walks of radical (of the program), RadicalOf and IsNondegenerate of both sides. -/
import Derived.Test.YtbpihnpakolooaaGreatDoorR1
import Derived.Test.YtbpihnpakolooaaGreatDoorLa
import Derived.WalkLawsBesides
namespace Go.Proofs.YtbpihnpakolooaaGreatDoor
open Go Go.RowKit Grp
set_option linter.unusedSimpArgs false
set_option linter.unusedVariables false

set_option maxHeartbeats 2000000 in
theorem radical_any (w : World) (A : Option Addr) (n c : Nat) (os : List Int) (D : Int) (A' : Option Addr) (n' c' : Nat) (vs : List Int)
    (h : Sl w w.heap.size A n c os) (h' : Sl w w.heap.size A' n' c' vs) (hok : OkM os D vs) :
    Calls Tryz.prog 72 #[.agg #[.slice A n c, .int .i64 D, .slice A' n' c']] w (Mk w (radL os D vs vs.length)) := by
  obtain rfl := h'.len
  have hG := hok.g
  have hL := hide hok.len
  have hn16 := hok.lt
  go_enter Tryz.func72, Tryz.ntmps72
  go_wp2_with fail
  obtain ⟨W, hW⟩ : ∃ W, w.alloc (.cells #[.slice A n c, .int .i64 D, .slice A' vs.length c'] 26) = W := ⟨_, rfl⟩
  have hbW : Below w.heap.size w W := by rw [← hW]; exact (by repeat (first | assumption | exact Below.refl _ _ | apply below_drewN | apply Below.drew | apply Below.alloc | apply Below.setCell | omega | (focus (simp; done)) | (focus (simp; omega))))
  have hszW : w.heap.size < W.heap.size := by rw [← hW]; simp
  have hsW := hide (show W.heap.size = w.heap.size + 1 by rw [← hW]; simp)
  have bM : Blk W w.heap.size 26 #[.slice A n c, .int .i64 D, .slice A' vs.length c'] := by rw [← hW]; exact Blk.new _ _ _
  have q0 : W.cell? ⟨w.heap.size, 0, none⟩ = some (.slice A n c) := by rw [← hW]; exact (Blk.new _ _ _).cell 0
  have q1 : W.cell? ⟨w.heap.size, 1, none⟩ = some (.int .i64 D) := by rw [← hW]; exact (Blk.new _ _ _).cell 1
  have q2 : W.cell? ⟨w.heap.size, 2, none⟩ = some (.slice A' vs.length c') := by rw [← hW]; exact (Blk.new _ _ _).cell 2
  rw [hW]
  clear hW
  have hs := (h.below hbW).more (Nat.le_of_lt hszW)
  have hs' := (h'.below hbW).more (Nat.le_of_lt hszW)
  have hsl : ∀ wd, Below W.heap.size W wd → Sl wd wd.heap.size A n c os := fun wd h => (hs.below h).more h.size
  have hsv : ∀ wd, Below W.heap.size W wd → Sl wd wd.heap.size A' vs.length c' vs := fun wd h => (hs'.below h).more h.size
  refine (size_any _ _ _ _ _ _).mono ?_
  rintro e w2 ⟨rfl, hb2⟩
  have hB2 : Below W.heap.size W w2 := Below.trans ((Below.refl _ _).alloc (Nat.le_refl _) _) (hb2.mono (by simp))
  have hO2 : Ow w2 W.heap.size (.slice (some ⟨w.heap.size + 1, 0, none⟩) 0 0) [] := (Ow.made' (xs := []) W #[] (w.heap.size + 1) 0 hsW.out rfl (by rw [hsW.out]; omega) rfl (by unfold maxLen; omega)).below hb2
  have hR0 : radL os D vs 0 = [] := rfl
  have HR0 := hide hR0
  clear hR0 hb2
  go_wp2_with fail
  go_loopw [3, 10] (fun o i wr => ∃ (k : Nat) (vv : Value), k ≤ vs.length ∧ i = .int .i64 k ∧ vv = o ∧ Ow wr W.heap.size vv (radL os D vs k) ∧ Below W.heap.size W wr) (fun _ i _ => vs.length - (intOf i).toNat)
  case atStart => exact ⟨0, _, by omega, rfl, rfl, by rw [HR0.out]; exact hO2, hB2⟩
  case round =>
    clear hO2 hB2
    obtain ⟨k, vv, hk, rfl, rfl, hO, hBe⟩ := hrel
    by_cases hlt : k < vs.length
    · have hk16 : (k : Int) < prodL os := by have := hL.out; omega
      have r0 := (hBe.cell (p := ⟨w.heap.size, 0, none⟩) hszW).trans q0
      have r1 := (hBe.cell (p := ⟨w.heap.size, 1, none⟩) hszW).trans q1
      have r2 := (hBe.cell (p := ⟨w.heap.size, 2, none⟩) hszW).trans q2
      go_wp2_with fail
      clear r0 r1 r2
      refine (size_any _ _ _ _ _ _).mono ?_
      rintro e w2 ⟨rfl, hb2⟩
      replace hBe := hBe.trans (hb2.mono hBe.size)
      replace hO := hO.below hb2
      clear hb2
      go_wp2_with fail
      go_loopw [5, 15] (fun g i wr => ∃ (y : Nat) (b : Bool), y ≤ vs.length ∧ i = .int .i64 y ∧ g = .bool b ∧ (b = true → ∀ j, j < y → Pr os D vs k j = 0) ∧ (b = false → radB os D vs k = false) ∧ Ow wr W.heap.size vv (radL os D vs k) ∧ Below W.heap.size W wr) (fun _ i _ => vs.length - (intOf i).toNat)
      case atStart => exact ⟨0, true, by omega, rfl, rfl, fun _ j hj => absurd hj (by omega), (fun h => by cases h), hO, hBe⟩
      case round =>
        clear hO hBe
        obtain ⟨y, b, hy, rfl, rfl, hb1, hb2, hO, hBe⟩ := hrel
        cases b with
        | false =>
          have hF0 := hide (hb2 rfl)
          have hF := hide (radL_f hF0.out)
          clear hb1 hb2
          have r0 := (hBe.cell (p := ⟨w.heap.size, 0, none⟩) hszW).trans q0
          have r1 := (hBe.cell (p := ⟨w.heap.size, 1, none⟩) hszW).trans q1
          have r2 := (hBe.cell (p := ⟨w.heap.size, 2, none⟩) hszW).trans q2
          by_cases hly : y < vs.length
          · go_wp2_with fail
            go_roundw
            case rel => exact ⟨y + 1, false, by omega, by go_num, rfl, (fun h => by cases h), fun _ => hF0.out, hO, hBe⟩
            case measure => simp [intOf] <;> omega
          · go_wp2_with fail
            go_roundw
            case rel => exact ⟨k + 1, vv, by omega, by go_num, rfl, by rw [hF.out]; exact hO, hBe⟩
            case measure => simp [intOf] <;> omega
        | true =>
          have hP := hide (hb1 rfl)
          clear hb1 hb2
          by_cases hly : y < vs.length
          · have hy16 : (y : Int) < prodL os := by have := hL.out; omega
            obtain ⟨p, ep⟩ : ∃ p, Pr os D vs k y = p := ⟨_, rfl⟩
            have hpc := fun W' a b => pair_any W' A n c os D A' vs.length c' vs k y a b hok hk16 hy16
            rw [ep] at hpc
            have r0 := (hBe.cell (p := ⟨w.heap.size, 0, none⟩) hszW).trans q0
            have r1 := (hBe.cell (p := ⟨w.heap.size, 1, none⟩) hszW).trans q1
            have r2 := (hBe.cell (p := ⟨w.heap.size, 2, none⟩) hszW).trans q2
            by_cases hz : p = 0
            · have hzb : (p == 0) = true := by simpa using hz
              have hEP := hide (ep.trans hz)
              clear ep hz
              go_wp2_with fail
              clear r0 r1 r2
              refine (hpc _ (hsl _ hBe) (hsv _ hBe)).mono ?_
              rintro e w3 ⟨rfl, hb3⟩
              have hBe2 := hBe.trans (hb3.mono hBe.size)
              have hO2 := hO.below hb3
              go_wp2_with fail
              go_roundw
              case rel => exact ⟨y + 1, true, by omega, by go_num, rfl, fun _ j hj => by rcases Nat.lt_succ_iff_lt_or_eq.1 hj with h | rfl; exact hP.out j h; exact hEP.out, (fun h => by cases h), hO2, hBe2⟩
              case measure => simp [intOf] <;> omega
            · have hzb : (p == 0) = false := by simpa using hz
              have hF := hide (radB_f hly (by rw [ep]; exact hz))
              clear ep hz
              go_wp2_with fail
              clear r0 r1 r2
              refine (hpc _ (hsl _ hBe) (hsv _ hBe)).mono ?_
              rintro e w3 ⟨rfl, hb3⟩
              have hBe2 := hBe.trans (hb3.mono hBe.size)
              have hO2 := hO.below hb3
              go_wp2_with fail
              go_roundw
              case rel => exact ⟨y + 1, false, by omega, by go_num, rfl, (fun h => by cases h), fun _ => hF.out, hO2, hBe2⟩
              case measure => simp [intOf] <;> omega
          · obtain rfl : y = vs.length := by omega
            have hT := hide (radL_t (radB_t hP.out))
            have hll := radL_len os vs D k
            go_wp2_with (at_builtin; refine list_push _ rfl _ _ rfl W.heap.size vv _ rfl (hO.alloc _) k wr.heap.size _ rfl (Blk.new _ _ _) (by omega) (by have := hBe.size; simp; omega) (by simp) ?_; intro g cap w4 hP4)
            go_roundw
            case rel => exact ⟨k + 1, _, by omega, by go_num, rfl, by rw [hT.out]; exact hP4.own, (hBe.alloc hBe.size _).trans (hP4.below (hO.alloc _) (by have := hBe.size; simp; omega))⟩
            case measure => simp [intOf] <;> omega
    · obtain rfl : k = vs.length := by omega
      go_wp2_with fail
      go_ret
      exact ⟨vv, rfl, hO.less (Nat.le_of_lt hszW), hbW.trans (hBe.mono (Nat.le_of_lt hszW))⟩

/-- The radical, where there is a metric. -/
noncomputable def radM (os : List Int) (D : Int) (vs : List Int) : List Int := if isM os D vs = true then radL os D vs vs.length else []
noncomputable def ndgM (os : List Int) (D : Int) (vs : List Int) : Bool := isM os D vs && decide ((radL os D vs vs.length).length = 1)
set_option maxHeartbeats 1000000 in
theorem impl_Ndg_any (w : World) (A : Option Addr) (n c : Nat) (os : List Int) (D : Int) (A' : Option Addr) (n' c' : Nat) (vs : List Int) (h : Sl w w.heap.size A n c os) (h' : Sl w w.heap.size A' n' c' vs) (hn : n ≤ 1048576) (hn' : n' ≤ 1048576) :
    Calls Tryz.prog 31 #[.agg #[.slice A n c, .int .i64 D, .slice A' n' c']] w (ReB w (ndgM os D vs) (codeM os D vs)) := by
  obtain rfl := h'.len
  cases hm : isM os D vs with
  | false =>
    have hC := hide (show codeM os D vs = 1 by unfold codeM; rw [hm]; rfl)
    have hR := hide (show ndgM os D vs = false by unfold ndgM; rw [hm]; rfl)
    go_enter Tryz.func31, Tryz.ntmps31
    go_wp2_with fail
    obtain ⟨W, hW⟩ : ∃ W, w.alloc (.cells #[.slice A n c, .int .i64 D, .slice A' vs.length c'] 26) = W := ⟨_, rfl⟩
    have hbW : Below w.heap.size w W := by rw [← hW]; exact (by repeat (first | assumption | exact Below.refl _ _ | apply below_drewN | apply Below.drew | apply Below.alloc | apply Below.setCell | omega | (focus (simp; done)) | (focus (simp; omega))))
    have hszW : w.heap.size < W.heap.size := by rw [← hW]; simp
    have hsW := hide (show W.heap.size = w.heap.size + 1 by rw [← hW]; simp)
    have bM : Blk W w.heap.size 26 #[.slice A n c, .int .i64 D, .slice A' vs.length c'] := by rw [← hW]; exact Blk.new _ _ _
    have q0 : W.cell? ⟨w.heap.size, 0, none⟩ = some (.slice A n c) := by rw [← hW]; exact (Blk.new _ _ _).cell 0
    have q1 : W.cell? ⟨w.heap.size, 1, none⟩ = some (.int .i64 D) := by rw [← hW]; exact (Blk.new _ _ _).cell 1
    have q2 : W.cell? ⟨w.heap.size, 2, none⟩ = some (.slice A' vs.length c') := by rw [← hW]; exact (Blk.new _ _ _).cell 2
    rw [hW]
    clear hW
    have hs := (h.below hbW).more (Nat.le_of_lt hszW)
    have hs' := (h'.below hbW).more (Nat.le_of_lt hszW)
    go_wp2_with fail
    refine (implIs_v false _ _ _ _ _ _ _ _ _ _ hs hs' hn hn' hm).mono ?_
    rintro e w2 ⟨rfl, hb2⟩
    go_wp2_with fail
    refine bodyPost_ret (v := .tuple #[.bool false, .int .i64 1]) (by simp [results, Tryz.results31, go_sem]) rfl ?_
    exact ⟨by rw [hC.out, hR.out], hbW.trans (hb2.mono (Nat.le_of_lt hszW))⟩
  | true =>
    have hM := isM_iff.1 hm
    have hC := hide (show codeM os D vs = 0 by unfold codeM; rw [hm]; rfl)
    obtain ⟨L, hL⟩ : ∃ L, radL os D vs vs.length = L := ⟨_, rfl⟩
    have hR := hide (show ndgM os D vs = decide (L.length = 1) by unfold ndgM; rw [hm, hL]; rfl)
    have hlr : ∀ x ∈ L, i64ok x := by rw [← hL]; exact radL_rng hn'
    have HLR := hide hlr
    clear hlr
    have hcall := fun W a b => radical_any W A n c os D A' vs.length c' vs a b hM.ok
    rw [hL] at hcall
    clear hL
    go_enter Tryz.func31, Tryz.ntmps31
    go_wp2_with fail
    obtain ⟨W, hW⟩ : ∃ W, w.alloc (.cells #[.slice A n c, .int .i64 D, .slice A' vs.length c'] 26) = W := ⟨_, rfl⟩
    have hbW : Below w.heap.size w W := by rw [← hW]; exact (by repeat (first | assumption | exact Below.refl _ _ | apply below_drewN | apply Below.drew | apply Below.alloc | apply Below.setCell | omega | (focus (simp; done)) | (focus (simp; omega))))
    have hszW : w.heap.size < W.heap.size := by rw [← hW]; simp
    have hsW := hide (show W.heap.size = w.heap.size + 1 by rw [← hW]; simp)
    have bM : Blk W w.heap.size 26 #[.slice A n c, .int .i64 D, .slice A' vs.length c'] := by rw [← hW]; exact Blk.new _ _ _
    have q0 : W.cell? ⟨w.heap.size, 0, none⟩ = some (.slice A n c) := by rw [← hW]; exact (Blk.new _ _ _).cell 0
    have q1 : W.cell? ⟨w.heap.size, 1, none⟩ = some (.int .i64 D) := by rw [← hW]; exact (Blk.new _ _ _).cell 1
    have q2 : W.cell? ⟨w.heap.size, 2, none⟩ = some (.slice A' vs.length c') := by rw [← hW]; exact (Blk.new _ _ _).cell 2
    rw [hW]
    clear hW
    have hs := (h.below hbW).more (Nat.le_of_lt hszW)
    have hs' := (h'.below hbW).more (Nat.le_of_lt hszW)
    go_wp2_with fail
    refine (implIs_v true _ _ _ _ _ _ _ _ _ _ hs hs' hn hn' hm).mono ?_
    rintro e w2 ⟨rfl, hb2⟩
    have r0 := (hb2.cell (p := ⟨w.heap.size, 0, none⟩) hszW).trans q0
    have r1 := (hb2.cell (p := ⟨w.heap.size, 1, none⟩) hszW).trans q1
    have r2 := (hb2.cell (p := ⟨w.heap.size, 2, none⟩) hszW).trans q2
    go_wp2_with fail
    clear r0 r1 r2
    refine (hcall _ ((hs.below hb2).more hb2.size) ((hs'.below hb2).more hb2.size)).mono ?_
    rintro e w3 ⟨v, rfl, hO, hb3⟩
    obtain ⟨G, cg, rfl, sg⟩ := hO.sl HLR.out
    have hb2s := hb2.size
    by_cases h1 : L.length = 1
    · have h1b : ((L.length : Int) == 1) = true := by rw [beq_iff_eq]; omega
      have hR2 := hide (show ndgM os D vs = true by rw [hR.out]; simp [h1])
      have h1' := hide h1
      clear h1
      go_wp2_with fail
      refine bodyPost_ret (v := .tuple #[.bool true, .int .i64 0]) (by simp [results, Tryz.results31, go_sem]) rfl ?_
      exact ⟨by rw [hC.out, hR2.out], hbW.trans ((hb2.trans (hb3.mono hb2s)).mono (Nat.le_of_lt hszW))⟩
    · have h1b : ((L.length : Int) == 1) = false := by rw [beq_eq_false_iff_ne]; omega
      have hR2 := hide (show ndgM os D vs = false by rw [hR.out]; simp [h1])
      have h1' := hide h1
      clear h1
      go_wp2_with fail
      refine bodyPost_ret (v := .tuple #[.bool false, .int .i64 0]) (by simp [results, Tryz.results31, go_sem]) rfl ?_
      exact ⟨by rw [hC.out, hR2.out], hbW.trans ((hb2.trans (hb3.mono hb2s)).mono (Nat.le_of_lt hszW))⟩
end Go.Proofs.YtbpihnpakolooaaGreatDoor
