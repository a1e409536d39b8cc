
/- The walks of onlyOf, dualFault, duals of the program's rings. -/
import Derived.Test.YteobaodabjdcaaaRI1
import Derived.Test.YteobaodabjdcaaaRS2
namespace Go.Proofs.Yteobaodabjdcaaa
open Go Go.RowKit
set_option linter.unusedSimpArgs false
set_option linter.unusedVariables false
set_option maxRecDepth 100000

set_option maxHeartbeats 2000000 in
theorem onlyOf_any (w : World) (B n c b off : Nat) (b1 o1 c1 : Nat → Nat) (b2 o2 c2 : Nat → Nat → Nat) (t : Tb) (i : Nat) (hV : View w B n b off b1 o1 c1 b2 o2 c2 (t3 t)) (hB : B ≤ w.heap.size) (hn : t.length = n) (hn16 : n ≤ 16) (hi : i < n) (hc : n ≤ c) :
    Calls Try.prog 38 #[.agg #[.slice (some ⟨b, off, none⟩) n c], .int .i64 i] w (Re w (.int .i64 (du t i))) := by
  have HD := hide (show du t i = duF (fun j => t3 t i j 0) n by rw [← hn]; rfl)
  clear hn
  go_enter Try.func38, Try.ntmps38
  have g1 := (hV.h1 i hi).1
  have hbw : b < w.heap.size := Nat.lt_of_lt_of_le hV.hb hB
  go_wp2_with fail
  obtain ⟨W, hW⟩ : ∃ W, w.alloc (.cells #[.slice (some ⟨b, off, none⟩) n c] 31) = W := ⟨_, rfl⟩
  have hbW : Below w.heap.size w W := by rw [← hW]; exact (by repeat (first | assumption | exact Below.refl _ _ | apply below_drewN | apply Below.drew | apply Below.alloc | apply Below.setCell | omega | (focus (simp; done)) | (focus (simp; omega))))
  have hszW : w.heap.size < W.heap.size := by rw [← hW]; simp
  have hsW := hide (show W.heap.size = w.heap.size + 1 by rw [← hW]; simp)
  have q0 : W.cell? ⟨w.heap.size, 0, none⟩ = some (.slice (some ⟨b, off, none⟩) n c) := by rw [← hW]; exact (Blk.new _ _ _).cell 0
  rw [hW]
  clear hW
  have V := hV.le (hbW.mono hB)
  clear hsW g1 hbw
  go_loop [5, 14] (fun o' j => ∃ (k : Nat) (o : Int), k ≤ n ∧ j = .int .i64 k ∧ o' = .int .i64 o ∧ -1 ≤ o ∧ o ≤ 16 ∧ Hid (duSt (fun j => t3 t i j 0) k = some o)) (fun _ j => n - (intOf j).toNat)
  case atStart => exact ⟨0, -1, by omega, rfl, rfl, by omega, by omega, hide rfl⟩
  case round =>
    obtain ⟨k, o, hk, rfl, rfl, ho0, ho1, HS⟩ := hrel
    by_cases hlt : k < n
    · have g2 := (V.h2 i k hi hlt).1
      have g3 := V.h3 i k 0 hi hlt (by omega)
      simp only [Nat.add_zero] at g3
      have n0 : 0 < n := by omega
      obtain ⟨v, ev⟩ : ∃ v, t3 t i k 0 = v := ⟨_, rfl⟩
      rw [ev] at g3
      have EV := hide ev
      clear ev
      by_cases hv : v = 0
      · subst hv
        have HN := hide (duSt_0 HS.out EV.out)
        go_wp2_with fail
        go_round
        case rel => exact ⟨k + 1, o, by omega, by go_num, rfl, ho0, ho1, HN⟩
        case measure => simp [intOf] <;> omega
      · have w0 : (v == 0) = false := by simp [hv]
        by_cases ho : 0 ≤ o
        · have HN := hide (duF_stop (duSt_x HS.out (by rw [EV.out]; exact hv) (fun h => absurd h.2 (by omega))) hlt)
          clear hv
          go_wp2_with fail
          go_ret
          exact ⟨by rw [HD.out, HN.out]; rfl, hbW⟩
        · by_cases hv2 : v = 1
          · subst hv2
            have HN := hide (duSt_1 HS.out EV.out (by omega))
            clear hv
            go_wp2_with fail
            go_round
            case rel => exact ⟨k + 1, k, by omega, by go_num, rfl, by omega, by omega, HN⟩
            case measure => simp [intOf] <;> omega
          · have HN := hide (duF_stop (duSt_x HS.out (by rw [EV.out]; exact hv) (by rw [EV.out]; exact fun h => hv2 h.1)) hlt)
            have w1 : (v != 1) = true := by simp [hv2]
            clear hv hv2
            go_wp2_with fail
            go_ret
            exact ⟨by rw [HD.out, HN.out]; rfl, hbW⟩
    · obtain rfl : k = n := by omega
      go_wp2_with fail
      go_ret
      exact ⟨by rw [HD.out, duF_end HS.out]; rfl, hbW⟩
/-- The first label without a dual, or -1. -/
def dfI (t : Tb) : Int := match dfF t with | some i => i | none => -1
theorem dfI_some {t : Tb} {i : Int} (h : dfF t = some i) : dfI t = i := by unfold dfI; rw [h]
theorem dfI_none {t : Tb} (h : dfF t = none) : dfI t = -1 := by unfold dfI; rw [h]
set_option maxHeartbeats 2000000 in
theorem dualFault_any (w : World) (B n c b off : Nat) (b1 o1 c1 : Nat → Nat) (b2 o2 c2 : Nat → Nat → Nat) (t : Tb) (hV : View w B n b off b1 o1 c1 b2 o2 c2 (t3 t)) (hB : B ≤ w.heap.size) (hn : t.length = n) (hn16 : n ≤ 16) (hn1 : 1 ≤ n) (hc : n ≤ c) :
    Calls Try.prog 32 #[.agg #[.slice (some ⟨b, off, none⟩) n c]] w (Re w (.int .i64 (dfI t))) := by
  subst hn
  go_enter Try.func32, Try.ntmps32
  go_wp2_with fail
  obtain ⟨W, hW⟩ : ∃ W, w.alloc (.cells #[.slice (some ⟨b, off, none⟩) t.length c] 31) = W := ⟨_, rfl⟩
  have hbW : Below w.heap.size w W := by rw [← hW]; exact (by repeat (first | assumption | exact Below.refl _ _ | apply below_drewN | apply Below.drew | apply Below.alloc | apply Below.setCell | omega | (focus (simp; done)) | (focus (simp; omega))))
  have hszW : w.heap.size < W.heap.size := by rw [← hW]; simp
  have hsW := hide (show W.heap.size = w.heap.size + 1 by rw [← hW]; simp)
  have q0 : W.cell? ⟨w.heap.size, 0, none⟩ = some (.slice (some ⟨b, off, none⟩) t.length c) := by rw [← hW]; exact (Blk.new _ _ _).cell 0
  rw [hW]
  clear hW
  have hbB := hbW.mono hB
  have hBW : B ≤ W.heap.size := by omega
  have hone := fun W' (h : Below W.heap.size W W') i (hi : i < t.length) => onlyOf_any W' B t.length c b off b1 o1 c1 b2 o2 c2 t i (hV.le (hbB.trans (h.mono hBW))) (Nat.le_trans hBW h.size) rfl hn16 hi hc
  have HO := hide hone
  clear hone hsW
  go_loopw [8] (fun j wr => ∃ k : Nat, k ≤ t.length ∧ j = .int .i64 k ∧ Hid (fs k (dfAt t) = none) ∧ Below W.heap.size W wr) (fun j _ => t.length - (intOf j).toNat)
  case atStart => exact ⟨0, by omega, rfl, hide rfl, Below.refl _ _⟩
  case round =>
    obtain ⟨k, hk, rfl, HF, hBe⟩ := hrel
    by_cases hlt : k < t.length
    · have r0 := (hBe.cell (p := ⟨w.heap.size, 0, none⟩) hszW).trans q0
      have hr := du_rng t k
      have hcall := HO.out _ hBe k hlt
      obtain ⟨x, ex⟩ : ∃ x, du t k = x := ⟨_, rfl⟩
      rw [ex] at hcall hr
      have EX := hide ex
      have HC := hide hcall
      clear ex hcall
      by_cases hx : x < 0
      · have HE := hide (dfI_some (fs_stop HF.out (dfAt_1 (by simp [dfB, EX.out, hx])) hlt))
        go_wp2_with fail
        clear r0
        refine HC.out.mono ?_
        rintro e w1 ⟨rfl, hb1⟩
        go_wp2_with fail
        go_ret
        exact ⟨by rw [HE.out]; rfl, hbW.trans ((hBe.trans (hb1.mono hBe.size)).mono (Nat.le_of_lt hszW))⟩
      · obtain ⟨m, rfl⟩ : ∃ m : Nat, x = (m : Int) := ⟨x.toNat, by omega⟩
        have hm : m < t.length := by omega
        go_wp2_with fail
        clear r0
        refine HC.out.mono ?_
        rintro e w1 ⟨rfl, hb1⟩
        have hBe1 := hBe.trans (hb1.mono hBe.size)
        have r0 := (hBe1.cell (p := ⟨w.heap.size, 0, none⟩) hszW).trans q0
        have hcall := HO.out _ hBe1 m hm
        obtain ⟨y, ey⟩ : ∃ y, du t m = y := ⟨_, rfl⟩
        rw [ey] at hcall
        have EY := hide ey
        have HC2 := hide hcall
        clear ey hr hcall hb1
        by_cases hy : y = k
        · have HE := hide (fs_next HF.out (dfAt_no (by simp [dfB, EX.out, EY.out, hy])))
          subst hy
          go_wp2_with fail
          clear r0
          refine HC2.out.mono ?_
          rintro e w2 ⟨rfl, hb2⟩
          go_wp2_with fail
          go_roundw
          case rel => exact ⟨k + 1, by omega, by go_num, HE, hBe1.trans (hb2.mono hBe1.size)⟩
          case measure => simp [intOf] <;> omega
        · have HE := hide (dfI_some (fs_stop HF.out (dfAt_1 (by simp [dfB, EX.out, EY.out, hy])) hlt))
          have hyb : (y != (k : Int)) = true := by simp [hy]
          clear hy
          go_wp2_with fail
          clear r0
          refine HC2.out.mono ?_
          rintro e w2 ⟨rfl, hb2⟩
          go_wp2_with fail
          go_ret
          exact ⟨by rw [HE.out]; rfl, hbW.trans ((hBe1.trans (hb2.mono hBe1.size)).mono (Nat.le_of_lt hszW))⟩
    · obtain rfl : k = t.length := by omega
      have HE := hide (dfI_none (show dfF t = none from HF.out))
      go_wp2_with fail
      go_ret
      exact ⟨by rw [HE.out]; rfl, hbW.trans (hBe.mono (Nat.le_of_lt hszW))⟩
end Go.Proofs.Yteobaodabjdcaaa
