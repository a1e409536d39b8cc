
/- The walk of fault of the program's cocycles. -/
import Derived.Test.YthjlpgaoemdmkaaCI2
namespace Go.Proofs.Ythjlpgaoemdmkaa
open Go Go.RowKit Grp
set_option linter.unusedSimpArgs false
set_option linter.unusedVariables false
set_option maxRecDepth 100000

theorem oretB {w wr : World} {o : Option (List Int)} {xs : List Int} (E : o = some xs) (hb : Below w.heap.size w wr) {cs : Array Value} (hc : cs.toList = xs.map (Value.int .i64)) {n g : Nat} (hn : xs.length = n) (hm : n ≤ maxLen) (hg : wr.heap.size = g) :
    MkO w o (.returned (.slice (some ⟨g, 0, none⟩) n n)) (wr.alloc (.cells cs 2)) := by
  subst hg
  rw [E]
  exact mkO_new (w0 := w) (Blk.new' _ _ _ _ rfl) hc hn hb.size hm (hb.alloc hb.size _)
set_option maxHeartbeats 16000000 in
theorem cfault_any (w : World) (A : Option Addr) (n c : Nat) (os : List Int) (M : Int) (f b off : Nat) (b1 o1 c1 : Nat → Nat) (b2 o2 c2 : Nat → Nat → Nat) (t : Tb) (B : Nat) (hV : View w B t.length b off b1 o1 c1 b2 o2 c2 (t3 t)) (hB : B ≤ w.heap.size) (h : Sl w w.heap.size A n c os) (hn : n ≤ 1048576) (hC : IsCh os M t) :
    Calls Try.prog 84 #[.agg #[.slice A n c, .int .i64 M, .slice (some ⟨b, off, none⟩) t.length f]] w (MkO w (cfF os M t)) := by
  obtain rfl := h.len
  have hH := hC.ok hn
  have hn8 := hC.le
  have hM1 := hC.m1
  have hM2 := hC.m2
  have HR := hide (fun i j k (hi : i < t.length) (hj : j < t.length) (hk : k < t.length) => hC.t3rng hi hj hk)
  have HAl := hide (fun x y => An_lt hH hC.len x y)
  go_enter Try.func84, Try.ntmps84
  go_wp2_with fail
  obtain ⟨W, hW⟩ : ∃ W, w.alloc (.cells #[.slice A os.length c, .int .i64 M, .slice (some ⟨b, off, none⟩) t.length f] 25) = W := ⟨_, rfl⟩
  have hbW : Below w.heap.size w W := by rw [← hW]; exact (by repeat (first | assumption | exact Below.refl _ _ | apply below_drewN | apply Below.drew | apply Below.alloc | apply Below.setCell | omega | (focus (simp; done)) | (focus (simp; omega))))
  have hszW : w.heap.size < W.heap.size := by rw [← hW]; simp
  have hsW := hide (show W.heap.size = w.heap.size + 1 by rw [← hW]; simp)
  have q0 : W.cell? ⟨w.heap.size, 0, none⟩ = some (.slice A os.length c) := by rw [← hW]; exact (Blk.new _ _ _).cell 0
  have q1 : W.cell? ⟨w.heap.size, 1, none⟩ = some (.int .i64 M) := by rw [← hW]; exact (Blk.new _ _ _).cell 1
  have q2 : W.cell? ⟨w.heap.size, 2, none⟩ = some (.slice (some ⟨b, off, none⟩) t.length f) := by rw [← hW]; exact (Blk.new _ _ _).cell 2
  rw [hW]
  clear hW
  have hsl := h.below hbW
  clear hsW
  go_loopw [13] (fun i wx => ∃ p : Nat, p ≤ t.length ∧ i = .int .i64 p ∧ Hid (fs p (fun x => fs t.length fun y => fs t.length fun z => fs t.length fun u => cfAt os M t x y z u) = none) ∧ Below W.heap.size W wx) (fun i _ => t.length - (intOf i).toNat)
  case atStart => exact ⟨0, by omega, rfl, hide rfl, Below.refl _ _⟩
  case round =>
    obtain ⟨x, hx, rfl, HF1, hBr⟩ := hrel
    by_cases hlx : x < t.length
    · go_wp2_with fail
      go_loopw [18] (fun i wx => ∃ p : Nat, p ≤ t.length ∧ i = .int .i64 p ∧ Hid (fs p (fun y => fs t.length fun z => fs t.length fun u => cfAt os M t x y z u) = none) ∧ Below W.heap.size W wx) (fun i _ => t.length - (intOf i).toNat)
      case atStart => exact ⟨0, by omega, rfl, hide rfl, hBr⟩
      case round =>
        clear hBr
        obtain ⟨y, hy, rfl, HF2, hBr⟩ := hrel
        by_cases hly : y < t.length
        · go_wp2_with fail
          go_loopw [23] (fun i wx => ∃ p : Nat, p ≤ t.length ∧ i = .int .i64 p ∧ Hid (fs p (fun z => fs t.length fun u => cfAt os M t x y z u) = none) ∧ Below W.heap.size W wx) (fun i _ => t.length - (intOf i).toNat)
          case atStart => exact ⟨0, by omega, rfl, hide rfl, hBr⟩
          case round =>
            clear hBr
            obtain ⟨z, hz, rfl, HF3, hBr⟩ := hrel
            by_cases hlz : z < t.length
            · go_wp2_with fail
              go_loopw [28] (fun i wx => ∃ p : Nat, p ≤ t.length ∧ i = .int .i64 p ∧ Hid (fs p (fun u => cfAt os M t x y z u) = none) ∧ Below W.heap.size W wx) (fun i _ => t.length - (intOf i).toNat)
              case atStart => exact ⟨0, by omega, rfl, hide rfl, hBr⟩
              case round =>
                clear hBr
                obtain ⟨u, hu, rfl, HF4, hBr⟩ := hrel
                by_cases hlu : u < t.length
                · have hplus := fun W' (hW : Below W.heap.size W W') (p q : Nat) (hp : p < t.length) (hq : q < t.length) => plus_any W' A os.length c os (.int .i64 M) (.slice (some ⟨b, off, none⟩) t.length f) p q ((hsl.below (hW.mono (Nat.le_of_lt hszW))).more (Nat.le_trans (Nat.le_of_lt hszW) hW.size)) hH (by omega) (by omega)
                  obtain ⟨i1, ei1⟩ : ∃ i, An os x y = i := ⟨_, rfl⟩
                  obtain ⟨i2, ei2⟩ : ∃ i, An os y z = i := ⟨_, rfl⟩
                  obtain ⟨i3, ei3⟩ : ∃ i, An os z u = i := ⟨_, rfl⟩
                  have hi1 : i1 < t.length := by rw [← ei1]; exact HAl.out x y
                  have hi2 : i2 < t.length := by rw [← ei2]; exact HAl.out y z
                  have hi3 : i3 < t.length := by rw [← ei3]; exact HAl.out z u
                  have H1 := hide (fun W' (hW : Below W.heap.size W W') => by have h9 := hplus W' hW x y hlx hly; rw [ei1] at h9; exact h9)
                  have H2 := hide (fun W' (hW : Below W.heap.size W W') => by have h9 := hplus W' hW y z hly hlz; rw [ei2] at h9; exact h9)
                  have H3 := hide (fun W' (hW : Below W.heap.size W W') => by have h9 := hplus W' hW z u hlz hlu; rw [ei3] at h9; exact h9)
                  have hcf := cf5 (HR.out y z u hly hlz hlu) (HR.out i1 z u hi1 hlz hlu) (HR.out x i2 u hlx hi2 hlu) (HR.out x y i3 hlx hly hi3) (HR.out x y z hlx hly hlz)
                  have hco : cob os t x y z u = t3 t y z u - t3 t i1 z u + t3 t x i2 u - t3 t x y i3 + t3 t x y z := by unfold cob; rw [ei1, ei2, ei3]
                  obtain ⟨v1, ev1⟩ : ∃ v, t3 t y z u = v := ⟨_, rfl⟩
                  obtain ⟨v2, ev2⟩ : ∃ v, t3 t i1 z u = v := ⟨_, rfl⟩
                  obtain ⟨v3, ev3⟩ : ∃ v, t3 t x i2 u = v := ⟨_, rfl⟩
                  obtain ⟨v4, ev4⟩ : ∃ v, t3 t x y i3 = v := ⟨_, rfl⟩
                  obtain ⟨v5, ev5⟩ : ∃ v, t3 t x y z = v := ⟨_, rfl⟩
                  rw [ev1, ev2, ev3, ev4, ev5] at hcf hco
                  have EV1 := hide ev1
                  have EV2 := hide ev2
                  have EV3 := hide ev3
                  have EV4 := hide ev4
                  have EV5 := hide ev5
                  clear hplus ei1 ei2 ei3 ev1 ev2 ev3 ev4 ev5
                  obtain ⟨w1, w2, w3, w4, w5, w6⟩ := hcf
                  obtain ⟨S, hS⟩ : ∃ S, v1 - v2 + v3 - v4 + v5 = S := ⟨_, rfl⟩
                  rw [hS] at w4 w5 w6 hco
                  have HS := hide hS
                  have HCO := hide hco
                  clear hco
                  have hwr : w.heap.size < wr.heap.size := Nat.lt_of_lt_of_le hszW hBr.size
                  have p0 := (hBr.cell (p := ⟨w.heap.size, 0, none⟩) hszW).trans q0
                  have p1 := (hBr.cell (p := ⟨w.heap.size, 1, none⟩) hszW).trans q1
                  have p2 := (hBr.cell (p := ⟨w.heap.size, 2, none⟩) hszW).trans q2
                  have P0 := hide p0
                  have P1 := hide p1
                  have P2 := hide p2
                  have hVr := hV.le ((hbW.trans (hBr.mono (Nat.le_of_lt hszW))).mono hB)
                  have hBr' : B ≤ wr.heap.size := by omega
                  clear p0 p1 p2
                  go_wp2_with fail
                  refine wp_region_be [0, 1, 2, 3, 4, 5, 6, 7, 8, 9, 10, 11, 12, 13, 17, 20, 24, 25, 26, 27, 28, 29, 30, 34, 38, 39, 40, 41, 42, 43, 44, 45, 46, 47, 52, 53, 54, 55, 56, 57, 58, 59, 60, 61, 14, 15, 16, 18, 19, 21, 22, 23, 31, 32, 33, 35, 36, 37, 48, 49, 50, 51, 62, 63] 64 wr.heap.size wr (by kernel_rfl) (by kernel_rfl) (by kernel_rfl) (fun _ _ _ _ _ h => h) (Below.refl _ _) (fun wd hBe => ?_)
                  repeat (first | (apply ord_tk rfl (by rfl) (by rfl) (by rfl); (focus (intro wx hSw; have V' := hVr.le (hSw.mono hBr'); have a1 := (V'.h1 y hly).1; have a2 := (V'.h2 y z hly hlz).1; have a3 := V'.h3 y z u hly hlz hlu; have d1 := (V'.h1 i1 hi1).1; have d2 := (V'.h2 i1 z hi1 hlz).1; have d3 := V'.h3 i1 z u hi1 hlz hlu; have e1 := (V'.h1 x hlx).1; have e2 := (V'.h2 x i2 hlx hi2).1; have e3 := V'.h3 x i2 u hlx hi2 hlu; have g2 := (V'.h2 x y hlx hly).1; have g3 := V'.h3 x y i3 hlx hly hi3; have g4 := V'.h3 x y z hlx hly hlz; rw [EV1.out] at a3; rw [EV2.out] at d3; rw [EV3.out] at e3; rw [EV4.out] at g3; rw [EV5.out] at g4; have r0 := (hSw.cell (p := ⟨w.heap.size, 0, none⟩) hwr).trans P0.out; have r1 := (hSw.cell (p := ⟨w.heap.size, 1, none⟩) hwr).trans P1.out; have r2 := (hSw.cell (p := ⟨w.heap.size, 2, none⟩) hwr).trans P2.out; clear V'; go_simp; (try with_reducible rfl))); (try simp only [Act.put, List.setIfInBounds_toArray, List.set_cons_zero, List.set_cons_succ])) | (apply ord_skip rfl (by rfl) (by rfl) (fun _ => hBe); (try simp only [Act.put, List.setIfInBounds_toArray, List.set_cons_zero, List.set_cons_succ])))
                  refine ord_do rfl (by rfl) (by rfl) (fun K hK => ?_)
                  go_simp
                  refine (H1.out _ (hBr.trans (hBe.mono hBr.size))).mono ?_
                  rintro e wd' ⟨rfl, hwd⟩
                  replace hBe := hBe.trans (hwd.mono hBe.size)
                  clear hwd
                  refine hK.out _ _ (fun _ => hBe) ?_
                  (try simp only [Act.put, List.setIfInBounds_toArray, List.set_cons_zero, List.set_cons_succ])
                  clear hK K
                  repeat (first | (apply ord_tk rfl (by rfl) (by rfl) (by rfl); (focus (intro wx hSw; have V' := hVr.le (hSw.mono hBr'); have a1 := (V'.h1 y hly).1; have a2 := (V'.h2 y z hly hlz).1; have a3 := V'.h3 y z u hly hlz hlu; have d1 := (V'.h1 i1 hi1).1; have d2 := (V'.h2 i1 z hi1 hlz).1; have d3 := V'.h3 i1 z u hi1 hlz hlu; have e1 := (V'.h1 x hlx).1; have e2 := (V'.h2 x i2 hlx hi2).1; have e3 := V'.h3 x i2 u hlx hi2 hlu; have g2 := (V'.h2 x y hlx hly).1; have g3 := V'.h3 x y i3 hlx hly hi3; have g4 := V'.h3 x y z hlx hly hlz; rw [EV1.out] at a3; rw [EV2.out] at d3; rw [EV3.out] at e3; rw [EV4.out] at g3; rw [EV5.out] at g4; have r0 := (hSw.cell (p := ⟨w.heap.size, 0, none⟩) hwr).trans P0.out; have r1 := (hSw.cell (p := ⟨w.heap.size, 1, none⟩) hwr).trans P1.out; have r2 := (hSw.cell (p := ⟨w.heap.size, 2, none⟩) hwr).trans P2.out; clear V'; go_simp; (try with_reducible rfl))); (try simp only [Act.put, List.setIfInBounds_toArray, List.set_cons_zero, List.set_cons_succ])) | (apply ord_skip rfl (by rfl) (by rfl) (fun _ => hBe); (try simp only [Act.put, List.setIfInBounds_toArray, List.set_cons_zero, List.set_cons_succ])))
                  refine ord_do rfl (by rfl) (by rfl) (fun K hK => ?_)
                  go_simp
                  refine (H2.out _ (hBr.trans (hBe.mono hBr.size))).mono ?_
                  rintro e wd' ⟨rfl, hwd⟩
                  replace hBe := hBe.trans (hwd.mono hBe.size)
                  clear hwd
                  refine hK.out _ _ (fun _ => hBe) ?_
                  (try simp only [Act.put, List.setIfInBounds_toArray, List.set_cons_zero, List.set_cons_succ])
                  clear hK K
                  repeat (first | (apply ord_tk rfl (by rfl) (by rfl) (by rfl); (focus (intro wx hSw; have V' := hVr.le (hSw.mono hBr'); have a1 := (V'.h1 y hly).1; have a2 := (V'.h2 y z hly hlz).1; have a3 := V'.h3 y z u hly hlz hlu; have d1 := (V'.h1 i1 hi1).1; have d2 := (V'.h2 i1 z hi1 hlz).1; have d3 := V'.h3 i1 z u hi1 hlz hlu; have e1 := (V'.h1 x hlx).1; have e2 := (V'.h2 x i2 hlx hi2).1; have e3 := V'.h3 x i2 u hlx hi2 hlu; have g2 := (V'.h2 x y hlx hly).1; have g3 := V'.h3 x y i3 hlx hly hi3; have g4 := V'.h3 x y z hlx hly hlz; rw [EV1.out] at a3; rw [EV2.out] at d3; rw [EV3.out] at e3; rw [EV4.out] at g3; rw [EV5.out] at g4; have r0 := (hSw.cell (p := ⟨w.heap.size, 0, none⟩) hwr).trans P0.out; have r1 := (hSw.cell (p := ⟨w.heap.size, 1, none⟩) hwr).trans P1.out; have r2 := (hSw.cell (p := ⟨w.heap.size, 2, none⟩) hwr).trans P2.out; clear V'; go_simp; (try with_reducible rfl))); (try simp only [Act.put, List.setIfInBounds_toArray, List.set_cons_zero, List.set_cons_succ])) | (apply ord_skip rfl (by rfl) (by rfl) (fun _ => hBe); (try simp only [Act.put, List.setIfInBounds_toArray, List.set_cons_zero, List.set_cons_succ])))
                  refine ord_do rfl (by rfl) (by rfl) (fun K hK => ?_)
                  go_simp
                  refine (H3.out _ (hBr.trans (hBe.mono hBr.size))).mono ?_
                  rintro e wd' ⟨rfl, hwd⟩
                  replace hBe := hBe.trans (hwd.mono hBe.size)
                  clear hwd
                  refine hK.out _ _ (fun _ => hBe) ?_
                  (try simp only [Act.put, List.setIfInBounds_toArray, List.set_cons_zero, List.set_cons_succ])
                  clear hK K
                  repeat (first | (apply ord_tk rfl (by rfl) (by rfl) (by rfl); (focus (intro wx hSw; have V' := hVr.le (hSw.mono hBr'); have a1 := (V'.h1 y hly).1; have a2 := (V'.h2 y z hly hlz).1; have a3 := V'.h3 y z u hly hlz hlu; have d1 := (V'.h1 i1 hi1).1; have d2 := (V'.h2 i1 z hi1 hlz).1; have d3 := V'.h3 i1 z u hi1 hlz hlu; have e1 := (V'.h1 x hlx).1; have e2 := (V'.h2 x i2 hlx hi2).1; have e3 := V'.h3 x i2 u hlx hi2 hlu; have g2 := (V'.h2 x y hlx hly).1; have g3 := V'.h3 x y i3 hlx hly hi3; have g4 := V'.h3 x y z hlx hly hlz; rw [EV1.out] at a3; rw [EV2.out] at d3; rw [EV3.out] at e3; rw [EV4.out] at g3; rw [EV5.out] at g4; have r0 := (hSw.cell (p := ⟨w.heap.size, 0, none⟩) hwr).trans P0.out; have r1 := (hSw.cell (p := ⟨w.heap.size, 1, none⟩) hwr).trans P1.out; have r2 := (hSw.cell (p := ⟨w.heap.size, 2, none⟩) hwr).trans P2.out; clear V'; go_simp; (try with_reducible rfl))); (try simp only [Act.put, List.setIfInBounds_toArray, List.set_cons_zero, List.set_cons_succ])) | (apply ord_skip rfl (by rfl) (by rfl) (fun _ => hBe); (try simp only [Act.put, List.setIfInBounds_toArray, List.set_cons_zero, List.set_cons_succ])))
                  refine ord_nil ?_
                  have r0 := (hBe.cell (p := ⟨w.heap.size, 0, none⟩) hwr).trans P0.out
                  have r1 := (hBe.cell (p := ⟨w.heap.size, 1, none⟩) hwr).trans P1.out
                  have r2 := (hBe.cell (p := ⟨w.heap.size, 2, none⟩) hwr).trans P2.out
                  have hBx := hBr.trans (hBe.mono hBr.size)
                  clear hBe
                  go_wp2_with fail
                  clear r0 r1 r2
                  refine (restC_any _ _ _ M S hM1 (by omega)).mono ?_
                  rintro e w9 ⟨rfl, hb9⟩
                  have hB9 := hBx.trans (hb9.mono hBx.size)
                  by_cases hmz : S % M = 0
                  · have HE := hide (fs_next HF4.out (cfAt_no (m := M) (by rw [HCO.out]; exact hmz)))
                    have hmb : (S % M != 0) = false := by simp [hmz]
                    clear hmz
                    go_wp2_with fail
                    go_roundw
                    case rel => exact ⟨u + 1, by omega, by go_num, HE, hB9⟩
                    case measure => simp [intOf] <;> omega
                  · have HE := hide (fs_stop HF1.out (fs_stop HF2.out (fs_stop HF3.out (fs_stop HF4.out (cfAt_1 (m := M) (by rw [HCO.out]; exact hmz)) hlu) hlz) hly) hlx)
                    have hmb : (S % M != 0) = true := by simp [hmz]
                    clear hmz
                    go_wp2_with fail
                    go_ret
                    exact oretB (show cfF os M t = some [(x : Int), (y : Int), (z : Int), (u : Int)] from HE.out) (hbW.trans (hB9.mono (Nat.le_of_lt hszW))) rfl rfl (by unfold maxLen; omega) rfl
                · obtain rfl : u = t.length := by omega
                  have HE := hide (fs_next HF3.out HF4.out)
                  go_wp2_with fail
                  go_roundw
                  case rel => exact ⟨z + 1, by omega, by go_num, HE, hBr⟩
                  case measure => simp [intOf] <;> omega
            · obtain rfl : z = t.length := by omega
              have HE := hide (fs_next HF2.out HF3.out)
              go_wp2_with fail
              go_roundw
              case rel => exact ⟨y + 1, by omega, by go_num, HE, hBr⟩
              case measure => simp [intOf] <;> omega
        · obtain rfl : y = t.length := by omega
          have HE := hide (fs_next HF1.out HF2.out)
          go_wp2_with fail
          go_roundw
          case rel => exact ⟨x + 1, by omega, by go_num, HE, hBr⟩
          case measure => simp [intOf] <;> omega
    · obtain rfl : x = t.length := by omega
      have HE := hide (show cfF os M t = none from HF1.out)
      go_wp2_with fail
      go_ret
      rw [HE.out]
      exact MkO.no (hbW.trans (hBr.mono (Nat.le_of_lt hszW)))
end Go.Proofs.Ythjlpgaoemdmkaa
