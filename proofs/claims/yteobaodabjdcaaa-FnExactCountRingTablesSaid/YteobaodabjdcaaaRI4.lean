
/- The walks of turnFault, bracketFault of the program's rings. -/
import Derived.Test.YteobaodabjdcaaaRI3
namespace Go.Proofs.Yteobaodabjdcaaa
open Go Go.RowKit
set_option linter.unusedSimpArgs false
set_option linter.unusedVariables false
set_option maxRecDepth 100000

set_option maxHeartbeats 4000000 in
theorem turnFault_any (w : World) (c b off : Nat) (b1 o1 c1 : Nat → Nat) (b2 o2 c2 : Nat → Nat → Nat) (t : Tb) (B : Nat) (hV : View w B t.length b off b1 o1 c1 b2 o2 c2 (t3 t)) (hB : B ≤ w.heap.size) (hn16 : t.length ≤ 16) (hn1 : 1 ≤ t.length) (hc : t.length ≤ c) (hD : dfF t = none) :
    Calls Try.prog 33 #[.agg #[.slice (some ⟨b, off, none⟩) t.length c]] w (MkO w (turnF t)) := by
  have HM := hide (show ∀ j, j < t.length → ∃ m : Nat, du t j = m ∧ m < t.length from fun j hj => by have := dfB_t hD hj; exact ⟨(du t j).toNat, by omega, by omega⟩)
  clear hD
  go_enter Try.func33, Try.ntmps33
  go_wp2_with fail
  obtain ⟨W, hW⟩ : ∃ W, w.alloc (.cells #[.slice (some ⟨b, off, none⟩) t.length c] 31) = W := ⟨_, rfl⟩
  have hbW : Below w.heap.size w W := by rw [← hW]; exact (by repeat (first | assumption | exact Below.refl _ _ | apply below_drewN | apply Below.drew | apply Below.alloc | apply Below.setCell | omega | (focus (simp; done)) | (focus (simp; omega))))
  have hszW : w.heap.size < W.heap.size := by rw [← hW]; simp
  have hsW := hide (show W.heap.size = w.heap.size + 1 by rw [← hW]; simp)
  have q0 : W.cell? ⟨w.heap.size, 0, none⟩ = some (.slice (some ⟨b, off, none⟩) t.length c) := by rw [← hW]; exact (Blk.new _ _ _).cell 0
  rw [hW]
  clear hW
  clear hsW
  refine (duals_any W B t.length c b off b1 o1 c1 b2 o2 c2 t (hV.le (hbW.mono hB)) (by omega) rfl hn16 hn1 hc).mono ?_
  rintro e w1 ⟨g, cap, rfl, hO, hb1⟩
  have hL := duL_length t t.length
  rw [hL] at hO ⊢
  have r0 := (hb1.cell (p := ⟨w.heap.size, 0, none⟩) hszW).trans q0
  have hbw := hbW.trans (hb1.mono (Nat.le_of_lt hszW))
  have V := hV.le (hbw.mono hB)
  have HG := hide (show ∀ j, j < t.length → w1.cell? ⟨g, j, none⟩ = some (.int .i64 (du t j)) from fun j hj => by
    rcases hO.form with ⟨h, _⟩ | ⟨g', cap', h, _, _, _, hcell⟩
    · cases h
    · injection h with h _ _
      injection h with h
      injection h with h _ _
      subst h
      refine hcell j _ ?_
      simp [duL, hj])
  clear hO hL q0
  go_wp2_with fail
  go_loopw [13] (fun i wx => ∃ p : Nat, p ≤ t.length ∧ i = .int .i64 p ∧ Hid (fs p (fun i => fs t.length fun j => fs t.length fun k => turnAt t i j k) = none) ∧ ∃ d, w1.drewN d = wx) (fun i _ => t.length - (intOf i).toNat)
  case atStart => exact ⟨0, by omega, rfl, hide rfl, 0, rfl⟩
  case round =>
    obtain ⟨i, hi, rfl, HF1, d, rfl⟩ := hrel
    by_cases hli : i < t.length
    · go_wp2_with fail
      go_loopw [19] (fun s wx => ∃ p : Nat, p ≤ t.length ∧ s = .int .i64 p ∧ Hid (fs p (fun j => fs t.length fun k => turnAt t i j k) = none) ∧ ∃ d, w1.drewN d = wx) (fun i _ => t.length - (intOf i).toNat)
      case atStart => exact ⟨0, by omega, rfl, hide rfl, d, rfl⟩
      case round =>
        obtain ⟨j, hj, rfl, HF2, d, rfl⟩ := hrel
        by_cases hlj : j < t.length
        · go_wp2_with fail
          go_loopw [25] (fun s wx => ∃ p : Nat, p ≤ t.length ∧ s = .int .i64 p ∧ Hid (fs p (fun k => turnAt t i j k) = none) ∧ ∃ d, w1.drewN d = wx) (fun i _ => t.length - (intOf i).toNat)
          case atStart => exact ⟨0, by omega, rfl, hide rfl, d, rfl⟩
          case round =>
            obtain ⟨k, hk, rfl, HF3, d, rfl⟩ := hrel
            by_cases hlk : k < t.length
            · obtain ⟨m1, em1, hm1⟩ := HM.out i hli
              obtain ⟨m2, em2, hm2⟩ := HM.out j hlj
              have g1 := HG.out i hli
              have g2 := HG.out j hlj
              rw [em1] at g1
              rw [em2] at g2
              have x1 := (V.h1 i hli).1
              have x2 := (V.h2 i j hli hlj).1
              have x3 := V.h3 i j k hli hlj hlk
              have y1 := (V.h1 m1 hm1).1
              have y2 := (V.h2 m1 k hm1 hlk).1
              have y3 := V.h3 m1 k j hm1 hlk hlj
              have z1 := (V.h1 k hlk).1
              have z2 := (V.h2 k m2 hlk hm2).1
              have z3 := V.h3 k m2 i hlk hm2 hli
              have EM1 := hide (show (du t i).toNat = m1 by omega)
              have EM2 := hide (show (du t j).toNat = m2 by omega)
              clear em1 em2
              obtain ⟨x, ex⟩ : ∃ x, t3 t i j k = x := ⟨_, rfl⟩
              obtain ⟨y, ey⟩ : ∃ y, t3 t m1 k j = y := ⟨_, rfl⟩
              obtain ⟨z, ez⟩ : ∃ z, t3 t k m2 i = z := ⟨_, rfl⟩
              rw [ex] at x3
              rw [ey] at y3
              rw [ez] at z3
              have EX := hide ex
              have EY := hide ey
              have EZ := hide ez
              clear ex ey ez
              by_cases hxy : x = y
              · by_cases hxz : x = z
                · have HE := hide (fs_next HF3.out (turnAt_no (by rw [EM1.out, EX.out, EY.out, hxy]) (by rw [EM2.out, EX.out, EZ.out, hxz])))
                  subst hxy
                  subst hxz
                  go_wp2_with fail
                  go_quiet (fail)
                  go_wp2_with fail
                  go_roundw
                  case rel => exact ⟨k + 1, by omega, by go_num, HE, _, rfl⟩
                  case measure => simp [intOf] <;> omega
                · have HE := hide (fs_stop HF1.out (fs_stop HF2.out (fs_stop HF3.out (turnAt_2 (by rw [EM2.out, EX.out, EZ.out]; exact hxz)) hlk) hlj) hli)
                  subst hxy
                  have hb1 : (x != z) = true := by simp [hxz]
                  clear hxz
                  go_wp2_with fail
                  go_quiet (fail)
                  go_wp2_with fail
                  go_ret
                  refine cast (congrArg (fun o => MkO _ o _ _) (show turnF t = some [2, (i : Int), (j : Int), (k : Int)] from HE.out).symm) (mkO_new (w0 := w) (xs := [2, i, j, k]) (Blk.new' _ _ _ _ rfl) rfl rfl hbw.size (by unfold maxLen; omega) ((below_drewN hbw _).alloc hbw.size _))
              · have HE := hide (fs_stop HF1.out (fs_stop HF2.out (fs_stop HF3.out (turnAt_1 (by rw [EM1.out, EX.out, EY.out]; exact hxy)) hlk) hlj) hli)
                have hb1 : (x != y) = true := by simp [hxy]
                clear hxy
                go_wp2_with fail
                go_quiet (fail)
                go_wp2_with fail
                go_ret
                refine cast (congrArg (fun o => MkO _ o _ _) (show turnF t = some [2, (i : Int), (j : Int), (k : Int)] from HE.out).symm) (mkO_new (w0 := w) (xs := [2, i, j, k]) (Blk.new' _ _ _ _ rfl) rfl rfl hbw.size (by unfold maxLen; omega) ((below_drewN hbw _).alloc hbw.size _))
            · obtain rfl : k = t.length := by omega
              have HE := hide (fs_next HF2.out HF3.out)
              go_wp2_with fail
              go_roundw
              case rel => exact ⟨j + 1, by omega, by go_num, HE, d, rfl⟩
              case measure => simp [intOf] <;> omega
        · obtain rfl : j = t.length := by omega
          have HE := hide (fs_next HF1.out HF2.out)
          go_wp2_with fail
          go_roundw
          case rel => exact ⟨i + 1, by omega, by go_num, HE, d, rfl⟩
          case measure => simp [intOf] <;> omega
    · obtain rfl : i = t.length := by omega
      have HT := hide (show turnF t = none from HF1.out)
      go_wp2_with fail
      go_ret
      exact cast (congrArg (fun o => MkO _ o _ _) HT.out.symm) (MkO.no (below_drewN hbw _))
set_option maxHeartbeats 8000000 in
theorem bracketFault_any (w : World) (c b off : Nat) (b1 o1 c1 : Nat → Nat) (b2 o2 c2 : Nat → Nat → Nat) (t : Tb) (B : Nat) (hV : View w B t.length b off b1 o1 c1 b2 o2 c2 (t3 t)) (hB : B ≤ w.heap.size) (hC : IsCb t) (hc : t.length ≤ c) :
    Calls Try.prog 34 #[.agg #[.slice (some ⟨b, off, none⟩) t.length c]] w (MkO w (brF t)) := by
  have hn16 := hC.le
  have hn1 := hC.pos
  have hR : ∀ i j k, i < t.length → j < t.length → k < t.length → 0 ≤ t3 t i j k ∧ t3 t i j k ≤ 1000 := fun i j k hi hj hk => hC.rng (by omega) (by omega) (by omega)
  go_enter Try.func34, Try.ntmps34
  go_wp2_with fail
  obtain ⟨W, hW⟩ : ∃ W, w.alloc (.cells #[.slice (some ⟨b, off, none⟩) t.length c] 31) = W := ⟨_, rfl⟩
  have hbW : Below w.heap.size w W := by rw [← hW]; exact (by repeat (first | assumption | exact Below.refl _ _ | apply below_drewN | apply Below.drew | apply Below.alloc | apply Below.setCell | omega | (focus (simp; done)) | (focus (simp; omega))))
  have hszW : w.heap.size < W.heap.size := by rw [← hW]; simp
  have hsW := hide (show W.heap.size = w.heap.size + 1 by rw [← hW]; simp)
  have q0 : W.cell? ⟨w.heap.size, 0, none⟩ = some (.slice (some ⟨b, off, none⟩) t.length c) := by rw [← hW]; exact (Blk.new _ _ _).cell 0
  rw [hW]
  clear hW
  have V := hV.le (hbW.mono hB)
  clear hsW
  go_loopw [15] (fun i wx => ∃ p : Nat, p ≤ t.length ∧ i = .int .i64 p ∧ Hid (fs p (fun i => fs t.length fun j => fs t.length fun k => fs t.length fun l => brAt t i j k l) = none) ∧ ∃ d, W.drewN d = wx) (fun i _ => t.length - (intOf i).toNat)
  case atStart => exact ⟨0, by omega, rfl, hide rfl, 0, rfl⟩
  case round =>
    obtain ⟨i, hi, rfl, HF1, d, rfl⟩ := hrel
    by_cases hli : i < t.length
    · have a1 := (V.h1 i hli).1
      go_wp2_with fail
      clear a1
      go_loopw [23] (fun i' wx => ∃ p : Nat, p ≤ t.length ∧ i' = .int .i64 p ∧ Hid (fs p (fun j => fs t.length fun k => fs t.length fun l => brAt t i j k l) = none) ∧ ∃ d, W.drewN d = wx) (fun i _ => t.length - (intOf i).toNat)
      case atStart => exact ⟨0, by omega, rfl, hide rfl, d, rfl⟩
      case round =>
        obtain ⟨j, hj, rfl, HF2, d, rfl⟩ := hrel
        by_cases hlj : j < t.length
        · have a1 := (V.h1 j hlj).1
          go_wp2_with fail
          clear a1
          go_loopw [31] (fun i' wx => ∃ p : Nat, p ≤ t.length ∧ i' = .int .i64 p ∧ Hid (fs p (fun k => fs t.length fun l => brAt t i j k l) = none) ∧ ∃ d, W.drewN d = wx) (fun i _ => t.length - (intOf i).toNat)
          case atStart => exact ⟨0, by omega, rfl, hide rfl, d, rfl⟩
          case round =>
            obtain ⟨k, hk, rfl, HF3, d, rfl⟩ := hrel
            by_cases hlk : k < t.length
            · go_wp2_with fail
              go_loopw [37] (fun i' wx => ∃ p : Nat, p ≤ t.length ∧ i' = .int .i64 p ∧ Hid (fs p (fun l => brAt t i j k l) = none) ∧ ∃ d, W.drewN d = wx) (fun i _ => t.length - (intOf i).toNat)
              case atStart => exact ⟨0, by omega, rfl, hide rfl, d, rfl⟩
              case round =>
                obtain ⟨l, hl, rfl, HF4, d, rfl⟩ := hrel
                by_cases hll : l < t.length
                · go_wp2_with fail
                  go_loopw [9, 10, 43] (fun a' b' i' wx => ∃ (p : Nat) (a b : Int), p ≤ t.length ∧ i' = .int .i64 p ∧ a' = .int .i64 a ∧ b' = .int .i64 b ∧ Hid (a = brL t i j k l p) ∧ Hid (b = brR t i j k l p) ∧ 0 ≤ a ∧ a ≤ 16000000 ∧ 0 ≤ b ∧ b ≤ 16000000 ∧ ∃ d, W.drewN d = wx) (fun _ _ i _ => t.length - (intOf i).toNat)
                  case atStart => exact ⟨0, 0, 0, by omega, rfl, rfl, rfl, hide rfl, hide rfl, by omega, by omega, by omega, by omega, d, rfl⟩
                  case round =>
                    obtain ⟨m, a, b', hm, rfl, rfl, rfl, HA, HB, ha0, ha1, hb0, hb1, d, rfl⟩ := hrel
                    by_cases hlm : m < t.length
                    · have x1 := (V.h1 i hli).1
                      have x2 := (V.h2 i j hli hlj).1
                      have x3 := V.h3 i j m hli hlj hlm
                      have y1 := (V.h1 m hlm).1
                      have y2 := (V.h2 m k hlm hlk).1
                      have y3 := V.h3 m k l hlm hlk hll
                      have z1 := (V.h1 j hlj).1
                      have z2 := (V.h2 j k hlj hlk).1
                      have z3 := V.h3 j k m hlj hlk hlm
                      have u2 := (V.h2 i m hli hlm).1
                      have u3 := V.h3 i m l hli hlm hll
                      have n1 := mul_1000 (hR i j m hli hlj hlm) (hR m k l hlm hlk hll)
                      have n2 := mul_1000 (hR j k m hlj hlk hlm) (hR i m l hli hlm hll)
                      have HA' := hide (show brL t i j k l (m + 1) = a + t3 t i j m * t3 t m k l by rw [HA.out]; rfl)
                      have HB' := hide (show brR t i j k l (m + 1) = b' + t3 t j k m * t3 t i m l by rw [HB.out]; rfl)
                      have q1 := (sm_rng (f := fun m => t3 t i j m * t3 t m k l) (n := m + 1) fun q hq => mul_1000 (hR i j q hli hlj (by omega)) (hR q k l (by omega) hlk hll))
                      have q2 := (sm_rng (f := fun m => t3 t j k m * t3 t i m l) (n := m + 1) fun q hq => mul_1000 (hR j k q hlj hlk (by omega)) (hR i q l hli (by omega) hll))
                      have q3 : 0 ≤ a + t3 t i j m * t3 t m k l ∧ a + t3 t i j m * t3 t m k l ≤ 16000000 := by rw [← HA'.out]; unfold brL; omega
                      have q4 : 0 ≤ b' + t3 t j k m * t3 t i m l ∧ b' + t3 t j k m * t3 t i m l ≤ 16000000 := by rw [← HB'.out]; unfold brR; omega
                      clear q1 q2
                      obtain ⟨x, ex⟩ : ∃ x, t3 t i j m = x := ⟨_, rfl⟩
                      obtain ⟨y, ey⟩ : ∃ y, t3 t m k l = y := ⟨_, rfl⟩
                      obtain ⟨z, ez⟩ : ∃ z, t3 t j k m = z := ⟨_, rfl⟩
                      obtain ⟨v, ev⟩ : ∃ v, t3 t i m l = v := ⟨_, rfl⟩
                      rw [ex] at x3 n1 q3 HA'
                      rw [ey] at y3 n1 q3 HA'
                      rw [ez] at z3 n2 q4 HB'
                      rw [ev] at u3 n2 q4 HB'
                      clear ex ey ez ev
                      have r1 : IntKind.i64.wrap (x * y) = x * y := wr64 _ ⟨by omega, by omega⟩
                      have r2 : IntKind.i64.wrap (a + x * y) = a + x * y := wr64 _ ⟨by omega, by omega⟩
                      have r3 : IntKind.i64.wrap (z * v) = z * v := wr64 _ ⟨by omega, by omega⟩
                      have r4 : IntKind.i64.wrap (b' + z * v) = b' + z * v := wr64 _ ⟨by omega, by omega⟩
                      go_wp2_with fail
                      go_quiet (fail)
                      go_wp2_with fail
                      go_quiet (fail)
                      go_wp2_with fail
                      go_roundw
                      case rel => exact ⟨m + 1, _, _, by omega, by go_num, rfl, rfl, hide HA'.out.symm, hide HB'.out.symm, q3.1, q3.2, q4.1, q4.2, _, rfl⟩
                      case measure => simp [intOf] <;> omega
                    · obtain rfl : m = t.length := by omega
                      by_cases hab : a = b'
                      · have HE := hide (fs_next HF4.out (brAt_no (by rw [← HA.out, ← HB.out, hab])))
                        subst hab
                        go_wp2_with fail
                        go_roundw
                        case rel => exact ⟨l + 1, by omega, by go_num, HE, d, rfl⟩
                        case measure => simp [intOf] <;> omega
                      · have HE := hide (show brF t = some [3, (i : Int), (j : Int), (k : Int), (l : Int)] from (fs_stop HF1.out (fs_stop HF2.out (fs_stop HF3.out (fs_stop HF4.out (brAt_1 (by rw [← HA.out, ← HB.out]; exact hab)) hll) hlk) hlj) hli))
                        have hab' : (a != b') = true := by simp [hab]
                        clear hab
                        go_wp2_with fail
                        go_ret
                        refine cast (congrArg (fun o => MkO _ o _ _) HE.out.symm) (mkO_new (w0 := w) (xs := [3, i, j, k, l]) (Blk.new' _ _ _ _ rfl) rfl rfl hbW.size (by unfold maxLen; omega) ((below_drewN hbW _).alloc hbW.size _))
                · obtain rfl : l = t.length := by omega
                  have HE := hide (fs_next HF3.out HF4.out)
                  go_wp2_with fail
                  go_roundw
                  case rel => exact ⟨k + 1, by omega, by go_num, HE, d, rfl⟩
                  case measure => simp [intOf] <;> omega
            · obtain rfl : k = t.length := by omega
              have HE := hide (fs_next HF2.out HF3.out)
              go_wp2_with fail
              go_roundw
              case rel => exact ⟨j + 1, by omega, by go_num, HE, d, rfl⟩
              case measure => simp [intOf] <;> omega
        · obtain rfl : j = t.length := by omega
          have HE := hide (fs_next HF1.out HF2.out)
          go_wp2_with fail
          go_roundw
          case rel => exact ⟨i + 1, by omega, by go_num, HE, d, rfl⟩
          case measure => simp [intOf] <;> omega
    · obtain rfl : i = t.length := by omega
      have HE := hide (show brF t = none from HF1.out)
      go_wp2_with fail
      go_ret
      exact cast (congrArg (fun o => MkO _ o _ _) HE.out.symm) (MkO.no (below_drewN hbW _))
end Go.Proofs.Yteobaodabjdcaaa
