
/- The walks of l10Radical, radical. -/
import Derived.Test.YtnoemhmmaicakaaEa
import Derived.WalkLawsBesides
namespace Go.Proofs.Ytnoemhmmaicakaa
open Go Go.RowKit Grp
set_option linter.unusedSimpArgs false
set_option linter.unusedVariables false

/-- x pairs to 0 with all elements. -/
def radB (os : List Int) (D : Int) (vs : List Int) (x : Nat) : Bool := (List.range vs.length).all fun y => Pr os D vs x y == 0
/-- The elements of the radical below k. -/
def radL (os : List Int) (D : Int) (vs : List Int) (k : Nat) : List Int := ((List.range k).filter fun x => radB os D vs x).map fun (x : Nat) => (x : Int)
theorem radL_t {os vs : List Int} {D : Int} {k : Nat} (h : radB os D vs k = true) : radL os D vs (k + 1) = radL os D vs k ++ [(k : Int)] := by
  unfold radL; rw [List.range_succ, List.filter_append, List.map_append]; simp [h]
theorem radL_f {os vs : List Int} {D : Int} {k : Nat} (h : radB os D vs k = false) : radL os D vs (k + 1) = radL os D vs k := by
  unfold radL; rw [List.range_succ, List.filter_append, List.map_append]; simp [h]
theorem radL_len (os vs : List Int) (D : Int) (k : Nat) : (radL os D vs k).length ≤ k := by
  unfold radL; rw [List.length_map]; exact Nat.le_trans (List.length_filter_le _ _) (by simp)
theorem radB_f {os vs : List Int} {D : Int} {x y : Nat} (hy : y < vs.length) (h : Pr os D vs x y ≠ 0) : radB os D vs x = false := by
  refine Bool.eq_false_iff.2 fun ha => h ?_
  have := List.all_eq_true.1 ha y (List.mem_range.2 hy)
  simpa using this
theorem radB_t {os vs : List Int} {D : Int} {x : Nat} (h : ∀ y, y < vs.length → Pr os D vs x y = 0) : radB os D vs x = true :=
  List.all_eq_true.2 fun y hy => by simpa using h y (List.mem_range.1 hy)
theorem radL_rng {os vs : List Int} {D : Int} {k : Nat} (hk : k ≤ 1048576) : ∀ x ∈ radL os D vs k, i64ok x := by
  intro x hx
  unfold radL at hx
  obtain ⟨j, hj, rfl⟩ := List.mem_map.1 hx
  have := List.mem_range.1 (List.mem_filter.1 hj).1
  exact ⟨by omega, by omega⟩

set_option maxHeartbeats 2000000 in
theorem l10Radical_any (w : World) (A : Option Addr) (n c : Nat) (os : List Int) (D : Int) (A' : Option Addr) (n' c' : Nat) (vs : List Int)
    (h : Sl w w.heap.size A n c os) (h' : Sl w w.heap.size A' n' c' vs) (hok : OkM os D vs) :
    Calls Try.prog 71 #[.agg #[.slice A n c, .int .i64 D, .slice A' n' c']] w (Mk w (radL os D vs vs.length)) := by
  obtain rfl := h'.len
  have hG := hok.g
  have hL := hide hok.len
  have hn16 := hok.lt
  obtain ⟨i0, hi0, hz0, hz1, hz2⟩ := info_parts int_info
  go_enter Try.func71, Try.ntmps71
  go_wp2_with fail
  obtain ⟨W, hW⟩ : ∃ W, w.alloc (.cells #[.slice A n c, .int .i64 D, .slice A' vs.length c'] 26) = W := ⟨_, rfl⟩
  have hbW : Below w.heap.size w W := by rw [← hW]; exact (by repeat (first | assumption | exact Below.refl _ _ | apply below_drewN | apply Below.drew | apply Below.alloc | apply Below.setCell | omega | (focus (simp; done)) | (focus (simp; omega))))
  have hszW : w.heap.size < W.heap.size := by rw [← hW]; simp
  have hsW := hide (show W.heap.size = w.heap.size + 1 by rw [← hW]; simp)
  have bM : Blk W w.heap.size 26 #[.slice A n c, .int .i64 D, .slice A' vs.length c'] := by rw [← hW]; exact Blk.new _ _ _
  have q0 : W.cell? ⟨w.heap.size, 0, none⟩ = some (.slice A n c) := by rw [← hW]; exact (Blk.new _ _ _).cell 0
  have q1 : W.cell? ⟨w.heap.size, 1, none⟩ = some (.int .i64 D) := by rw [← hW]; exact (Blk.new _ _ _).cell 1
  have q2 : W.cell? ⟨w.heap.size, 2, none⟩ = some (.slice A' vs.length c') := by rw [← hW]; exact (Blk.new _ _ _).cell 2
  rw [hW]
  clear hW
  have hs := (h.below hbW).more (Nat.le_of_lt hszW)
  have hs' := (h'.below hbW).more (Nat.le_of_lt hszW)
  have hsl : ∀ wd, Below W.heap.size W wd → Sl wd wd.heap.size A n c os := fun wd h => (hs.below h).more h.size
  have hsv : ∀ wd, Below W.heap.size W wd → Sl wd wd.heap.size A' vs.length c' vs := fun wd h => (hs'.below h).more h.size
  refine (l10Size_any _ _ _ _ _ _ (hsl _ ((Below.refl _ _).alloc (Nat.le_refl _) _)) hG).mono ?_
  rintro e w2 ⟨rfl, m, rfl⟩
  rw [← hL.out]
  have hB2 : Below W.heap.size W ((W.alloc (.cells #[] 2)).drewN m) := below_drewN ((Below.refl _ _).alloc (Nat.le_refl _) _) _
  have hO2 : Ow ((W.alloc (.cells #[] 2)).drewN m) W.heap.size (.slice (some ⟨w.heap.size + 1, 0, none⟩) 0 0) [] := (Ow.made' (xs := []) W #[] (w.heap.size + 1) 0 hsW.out rfl (by rw [hsW.out]; omega) rfl (by unfold maxLen; omega)).drewN m
  have hR0 : radL os D vs 0 = [] := rfl
  have HR0 := hide hR0
  clear hR0
  go_wp2_with fail
  go_loopw [3, 5] (fun o i wr => ∃ (k : Nat) (vv : Value), k ≤ vs.length ∧ i = .int .i64 k ∧ vv = o ∧ Ow wr W.heap.size vv (radL os D vs k) ∧ Below W.heap.size W wr) (fun _ i _ => vs.length - (intOf i).toNat)
  case atStart => exact ⟨0, _, by omega, rfl, rfl, by rw [HR0.out]; exact hO2, hB2⟩
  case round =>
    clear hO2 hB2
    obtain ⟨k, vv, hk, rfl, rfl, hO, hBe⟩ := hrel
    by_cases hlt : k < vs.length
    · have hk16 : (k : Int) < prodL os := by have := hL.out; omega
      go_wp2_with fail
      go_loopw [6, 7] (fun g i wr => ∃ (y : Nat) (b : Bool), y ≤ vs.length ∧ i = .int .i64 y ∧ g = .bool b ∧ (b = true → ∀ j, j < y → Pr os D vs k j = 0) ∧ (b = false → radB os D vs k = false) ∧ Ow wr W.heap.size vv (radL os D vs k) ∧ Below W.heap.size W wr) (fun _ i _ => vs.length - (intOf i).toNat)
      case atStart => exact ⟨0, true, by omega, rfl, rfl, fun _ j hj => absurd hj (by omega), (fun h => by cases h), hO, hBe⟩
      case round =>
        clear hO hBe
        obtain ⟨y, b, hy, rfl, rfl, hb1, hb2, hO, hBe⟩ := hrel
        cases b with
        | false =>
          have hF := hide (radL_f (hb2 rfl))
          clear hb1 hb2
          by_cases hly : y < vs.length
          all_goals
            go_wp2_with fail
            go_roundw
            case rel => exact ⟨k + 1, vv, by omega, by go_num, rfl, by rw [hF.out]; exact hO, hBe⟩
            case measure => simp [intOf] <;> omega
        | true =>
          have hP := hide (hb1 rfl)
          clear hb1 hb2
          by_cases hly : y < vs.length
          · have hy16 : (y : Int) < prodL os := by have := hL.out; omega
            obtain ⟨p, ep⟩ : ∃ p, Pr os D vs k y = p := ⟨_, rfl⟩
            have hpc := fun W' a b => l10Pair_any W' A n c os D A' vs.length c' vs k y a b hok hk16 hy16
            rw [ep] at hpc
            have r0 := (hBe.cell (p := ⟨w.heap.size, 0, none⟩) hszW).trans q0
            have r1 := (hBe.cell (p := ⟨w.heap.size, 1, none⟩) hszW).trans q1
            have r2 := (hBe.cell (p := ⟨w.heap.size, 2, none⟩) hszW).trans q2
            by_cases hz : p = 0
            · have hzb : (p == 0) = true := by simpa using hz
              have hEP := hide (ep.trans hz)
              clear ep hz
              go_wp2_with fail
              clear r0 r1 r2
              refine (hpc _ (hsl _ hBe) (hsv _ hBe)).mono ?_
              rintro e w3 ⟨rfl, hb3⟩
              have hBe2 := hBe.trans (hb3.mono hBe.size)
              have hO2 := hO.below hb3
              go_wp2_with fail
              go_roundw
              case rel => exact ⟨y + 1, true, by omega, by go_num, rfl, fun _ j hj => by rcases Nat.lt_succ_iff_lt_or_eq.1 hj with h | rfl; exact hP.out j h; exact hEP.out, (fun h => by cases h), hO2, hBe2⟩
              case measure => simp [intOf] <;> omega
            · have hzb : (p == 0) = false := by simpa using hz
              have hF := hide (radB_f hly (by rw [ep]; exact hz))
              clear ep hz
              go_wp2_with fail
              clear r0 r1 r2
              refine (hpc _ (hsl _ hBe) (hsv _ hBe)).mono ?_
              rintro e w3 ⟨rfl, hb3⟩
              have hBe2 := hBe.trans (hb3.mono hBe.size)
              have hO2 := hO.below hb3
              go_wp2_with fail
              go_roundw
              case rel => exact ⟨y + 1, false, by omega, by go_num, rfl, (fun h => by cases h), fun _ => hF.out, hO2, hBe2⟩
              case measure => simp [intOf] <;> omega
          · obtain rfl : y = vs.length := by omega
            have hT := hide (radL_t (radB_t hP.out))
            have hll := radL_len os vs D k
            go_wp2_with (at_builtin; refine list_push _ rfl _ _ rfl W.heap.size vv _ rfl (hO.alloc _) k wr.heap.size _ rfl (Blk.new _ _ _) (by omega) (by have := hBe.size; simp; omega) (by simp) ?_; intro g cap w4 hP4)
            go_roundw
            case rel => exact ⟨k + 1, _, by omega, by go_num, rfl, by rw [hT.out]; exact hP4.own, (hBe.alloc hBe.size _).trans (hP4.below (hO.alloc _) (by have := hBe.size; simp; omega))⟩
            case measure => simp [intOf] <;> omega
    · obtain rfl : k = vs.length := by omega
      go_wp2_with fail
      go_ret
      exact ⟨vv, rfl, hO.less (Nat.le_of_lt hszW), hbW.trans (hBe.mono (Nat.le_of_lt hszW))⟩
end Go.Proofs.Ytnoemhmmaicakaa
