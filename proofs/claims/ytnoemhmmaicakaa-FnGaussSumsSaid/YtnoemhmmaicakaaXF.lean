
/- The metric of no orders, as l10From makes it. -/
import Derived.Test.YtnoemhmmaicakaaXE
import Derived.WalkLawsBesides
namespace Go.Proofs.Ytnoemhmmaicakaa
open Go Go.RowKit Grp
set_option linter.unusedSimpArgs false
set_option linter.unusedVariables false
set_option maxRecDepth 100000 in
set_option maxHeartbeats 4000000 in
theorem l10Digits_nil (w : World) (B : Nat) (A : Option Addr) (c : Nat) (h : Sl w B A 0 c []) (hB : B ≤ w.heap.size) :
    Calls Try.prog 97 #[.slice A 0 c, .int .i64 0] w (Mk w []) := by
  obtain ⟨i0, hi0, hz0, hz1, hz2⟩ := info_parts int_info
  have hmk := fun W => run_make (P := Try.prog) (w := W) 24 2 i0 (.int .i64 0) Try.underlying24 hi0 hz0 .i64 .i64 0 0 (by omega) (by omega) (by rw [hz2]; omega) (by omega)
  simp only [hz1, Int.toNat_natCast, Nat.mul_one] at hmk
  go_enter Try.func97, Try.ntmps97
  go_wp2
  go_loopw [6] (fun i wr => ∃ cs : Array Value, cs.toList = [] ∧ i = .int .i64 (-1) ∧ w.alloc (.cells cs 2) = wr) (fun _ _ => 0)
  case atStart => exact ⟨madeCells #[.int .i64 0] 0, by simp [madeCells], rfl, rfl⟩
  case round =>
    obtain ⟨cs, hcs, rfl, rfl⟩ := hrel
    clear hmk
    go_wp2
    go_ret
    exact ⟨_, rfl, Ow.made' (xs := []) w cs _ 0 rfl hcs (Nat.le_refl _) rfl (by unfold maxLen; omega), (Below.refl _ _).alloc (Nat.le_refl _) _⟩
set_option maxRecDepth 100000 in
set_option maxHeartbeats 8000000 in
theorem l10From_nil (w : World) (A : Option Addr) (c : Nat) (D : Int) (A' : Option Addr) (c' : Nat) (A'' : Option Addr) (c'' : Nat)
    (h : Sl w w.heap.size A 0 c []) (h' : Sl w w.heap.size A' 0 c' []) (h'' : Sl w w.heap.size A'' 0 c'' []) (hD1 : 1 ≤ D) (hD2 : D ≤ 55440) :
    Calls Try.prog 90 #[.slice A 0 c, .int .i64 D, .slice A' 0 c', .slice A'' 0 c''] w (MkM1 w [] D [0]) := by
  go_enter Try.func90, Try.ntmps90
  go_wp2_with fail
  obtain ⟨W, hW⟩ : ∃ W, w.alloc (.cells #[.slice none 0 0, .int .i64 0, .slice none 0 0] 26) = W := ⟨_, rfl⟩
  have hbW : Below w.heap.size w W := by rw [← hW]; exact (by repeat (first | assumption | exact Below.refl _ _ | apply below_drewN | apply Below.drew | apply Below.alloc | apply Below.setCell | omega | (focus (simp; done)) | (focus (simp; omega))))
  have hszW : w.heap.size < W.heap.size := by rw [← hW]; simp
  have bR : Blk W w.heap.size 26 #[.slice none 0 0, .int .i64 0, .slice none 0 0] := by rw [← hW]; exact Blk.new _ _ _
  rw [hW]
  clear hW
  have gs := h.below hbW
  have gs' := h'.below hbW
  have gs'' := h''.below hbW
  refine (l01Own_any _ _ _ _ _ _ gs (Nat.le_of_lt hszW) (by omega)).mono ?_
  rintro e w2 ⟨v, rfl, hO, hb2⟩
  obtain ⟨Av, cv, rfl⟩ := hO.val
  have hBe : Below W.heap.size W w2 := hb2
  obtain ⟨w3, g, hg, hw3, hB3, hsub, bO, hgB⟩ := be_alloc hBe 26 #[.slice none 0 0, .int .i64 0, .slice none 0 0]
  replace hO := hO.below hsub
  replace bR := bR.all hB3
  replace hO := hO.less (show W.heap.size ≤ _ from Nat.le_refl _)
  have hI : MetIn W W.heap.size w.heap.size g (.slice Av 0 cv) [] D (.slice none 0 0) [] (put3 w3 g (.slice Av 0 cv) (.int .i64 D) (.slice none 0 0)) := ⟨put3_far bR (by omega), put3_own bO (by decide) hO, put3_blk bO, Ow.nil _ _, fun b hb => by simp [Value.ownBlock], put3_below hB3 hgB⟩
  have r0 := bO.cell 0
  have r1 := bO.cell 1
  have r2 := bO.cell 2
  have f0 := bO.frozen 0
  have f1 := bO.frozen 1
  have f2 := bO.frozen 2
  have hRs := hide (show w.heap.size < g by omega)
  clear hB3 hsub bO hb2 hBe hO bR
  obtain ⟨W3, hW3⟩ : ∃ W3, put3 w3 g (.slice Av 0 cv) (.int .i64 D) (.slice none 0 0) = W3 := ⟨_, rfl⟩
  unfold put3 at hW3 hI
  rw [hW3] at hI
  go_wp2_with fail
  clear hw3 hg hW3 r0 r1 r2 f0 f1 f2
  go_loopw [10] (fun x wr => ∃ (k : Nat) (vv : Value), k ≤ 1 ∧ x = .int .i64 k ∧ MetIn W W.heap.size w.heap.size g (.slice Av 0 cv) [] D vv ((List.range k).map fun _ => 0) wr) (fun x _ => 1 - (intOf x).toNat)
  case atStart => exact ⟨0, _, by omega, rfl, hI⟩
  case round =>
    clear hI
    obtain ⟨k, vv, hk, rfl, hI⟩ := hrel
    have hwz := hI.below.size
    go_wp2_with fail
    refine (l10Size_gen _ _ _ _ _ _ (gs.below (hI.below.mono (Nat.le_of_lt hszW))) (by simp) (by simp) (by simp [prodL])).mono ?_
    rintro e w4 ⟨rfl, m, hm⟩
    replace hI := hI.drewN m
    rw [← hm] at hI
    clear hm
    have hwz := hI.below.size
    have hp1 : prodL [] = 1 := rfl
    by_cases hlt : k < 1
    · obtain rfl : k = 0 := by omega
      have g4 := gs.below (hI.below.mono (Nat.le_of_lt hszW))
      go_wp2_with fail
      refine (l10Digits_nil _ w.heap.size _ _ g4 (by omega)).mono ?_
      rintro e w5 ⟨v, rfl, hO5, hb5⟩
      replace hI := hI.all hb5 hwz
      replace hwz := hI.below.size
      obtain ⟨A5, c5, rfl, gt⟩ := hO5.sl (by simp)
      clear hO5 hb5 g4
      go_wp2_with fail
      go_loopw [12, 14] (fun s i wr => i = .int .i64 0 ∧ s = .int .i64 0 ∧ Dr w5 wr) (fun _ _ _ => 0)
      case atStart => exact ⟨rfl, rfl, Dr.refl _⟩
      case round =>
        obtain ⟨rfl, rfl, hDr⟩ := hrel
        go_wp2_with fail
        go_loopw [12, 13, 15] (fun s a i wr => i = .int .i64 0 ∧ s = .int .i64 0 ∧ Dr w5 wr) (fun _ _ _ _ => 0)
        case atStart => exact ⟨rfl, rfl, hDr⟩
        case round =>
          clear hDr
          obtain ⟨rfl, rfl, hDr⟩ := hrel
          obtain ⟨m, rfl⟩ := hDr
          replace hI := hI.drewN m
          have hJ := hI.alloc hwz (.cells #[.int .i64 0] 2)
          have o2 := hI.out.cell 2
          go_wp2_with (at_builtin; refine list_push _ rfl _ _ rfl W.heap.size vv [] rfl hJ.vals 0 _ _ rfl (Blk.new _ _ _) (by simp) (by simp; omega) (by simp) ?_; intro g2 cap w6 hP; have o2' := hJ.pushed hP; have c2' := o2'.cell 2; have f2' := o2'.frozen 2)
          go_roundw
          case rel => exact ⟨1, _, by omega, by go_num, hJ.step hP (by simp; omega) (by have := hRs.out; omega) (by omega) (hI.ordsNe (by simp))⟩
          case measure => simp [intOf] <;> omega
    · obtain rfl : k = 1 := by omega
      obtain ⟨A2, c2, rfl⟩ := hI.vals.val
      obtain ⟨o0, o1, o2⟩ := hI.reads
      have hres := hI.res
      have r0 := hres.cell 0
      have r1 := hres.cell 1
      have r2 := hres.cell 2
      have f0 := hres.frozen 0
      have f1 := hres.frozen 1
      have f2 := hres.frozen 2
      go_wp2
      have hb3 := put3_blk (x := .slice Av 0 cv) (y := .int .i64 D) (z := .slice A2 1 c2) hres
      have q0 := hb3.cell 0
      have q1 := hb3.cell 1
      have q2 := hb3.cell 2
      unfold put3 at q0 q1 q2
      refine bodyPost_ret (v := .agg #[.slice Av 0 cv, .int .i64 D, .slice A2 1 c2]) (by simp [results, Try.results90, go_sem, q0, q1, q2]) rfl ?_
      exact (hI.weak hbW (Nat.le_of_lt hszW)).done1 (Nat.le_refl _)
end Go.Proofs.Ytnoemhmmaicakaa
