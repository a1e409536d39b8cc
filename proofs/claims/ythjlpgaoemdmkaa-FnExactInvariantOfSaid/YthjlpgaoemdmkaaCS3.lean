
/- The walk of l17Fault of the reference. -/
import Derived.Test.YthjlpgaoemdmkaaCS2
namespace Go.Proofs.Ythjlpgaoemdmkaa
open Go Go.RowKit Grp
set_option linter.unusedSimpArgs false
set_option linter.unusedVariables false
set_option maxRecDepth 100000

set_option maxHeartbeats 8000000 in
theorem l17Fault_any (w : World) (A : Option Addr) (n c : Nat) (os : List Int) (M : Int) (f b off : Nat) (b1 o1 c1 : Nat → Nat) (b2 o2 c2 : Nat → Nat → Nat) (t : Tb) (hV : View w w.heap.size t.length b off b1 o1 c1 b2 o2 c2 (t3 t)) (h : Sl w w.heap.size A n c os) (hn : n ≤ 1048576) (hC : IsCh os M t) :
    Calls Try.prog 91 #[.agg #[.slice A n c, .int .i64 M, .slice (some ⟨b, off, none⟩) t.length f]] w (MkO w (cfF os M t)) := by
  obtain rfl := h.len
  have hH := hC.ok hn
  have hn8 := hC.le
  have hM1 := hC.m1
  have hM2 := hC.m2
  have HR := hide (fun i j k (hi : i < t.length) (hj : j < t.length) (hk : k < t.length) => hC.t3rng hi hj hk)
  have HL := hide hC.len
  have HA := hide (An_eq hH)
  have HAl := hide (fun x y => An_lt hH hC.len x y)
  go_enter Try.func91, Try.ntmps91
  go_wp2_with fail
  obtain ⟨W, hW⟩ : ∃ W, w.alloc (.cells #[.slice A os.length c, .int .i64 M, .slice (some ⟨b, off, none⟩) t.length f] 25) = W := ⟨_, rfl⟩
  have hbW : Below w.heap.size w W := by rw [← hW]; exact (by repeat (first | assumption | exact Below.refl _ _ | apply below_drewN | apply Below.drew | apply Below.alloc | apply Below.setCell | omega | (focus (simp; done)) | (focus (simp; omega))))
  have hszW : w.heap.size < W.heap.size := by rw [← hW]; simp
  have hsW := hide (show W.heap.size = w.heap.size + 1 by rw [← hW]; simp)
  have q0 : W.cell? ⟨w.heap.size, 0, none⟩ = some (.slice A os.length c) := by rw [← hW]; exact (Blk.new _ _ _).cell 0
  have q1 : W.cell? ⟨w.heap.size, 1, none⟩ = some (.int .i64 M) := by rw [← hW]; exact (Blk.new _ _ _).cell 1
  have q2 : W.cell? ⟨w.heap.size, 2, none⟩ = some (.slice (some ⟨b, off, none⟩) t.length f) := by rw [← hW]; exact (Blk.new _ _ _).cell 2
  rw [hW]
  clear hW
  have V := hV.le hbW
  have hsl := h.below hbW
  clear hsW
  go_quiet (fail)
  go_wp2_with fail
  go_loopw [5] (fun i wx => ∃ p : Nat, p ≤ t.length ∧ i = .int .i64 p ∧ Hid (fs p (fun x => fs t.length fun y => fs t.length fun z => fs t.length fun u => cfAt os M t x y z u) = none) ∧ ∃ d, W.drewN d = wx) (fun i _ => t.length - (intOf i).toNat)
  case atStart => exact ⟨0, by omega, rfl, hide rfl, _, rfl⟩
  case round =>
    obtain ⟨x, hx, rfl, HF1, d, rfl⟩ := hrel
    by_cases hlx : x < t.length
    · go_wp2_with fail
      go_loopw [6] (fun i wx => ∃ p : Nat, p ≤ t.length ∧ i = .int .i64 p ∧ Hid (fs p (fun y => fs t.length fun z => fs t.length fun u => cfAt os M t x y z u) = none) ∧ ∃ d, W.drewN d = wx) (fun i _ => t.length - (intOf i).toNat)
      case atStart => exact ⟨0, by omega, rfl, hide rfl, _, rfl⟩
      case round =>
        obtain ⟨y, hy, rfl, HF2, d, rfl⟩ := hrel
        by_cases hly : y < t.length
        · go_wp2_with fail
          go_loopw [7] (fun i wx => ∃ p : Nat, p ≤ t.length ∧ i = .int .i64 p ∧ Hid (fs p (fun z => fs t.length fun u => cfAt os M t x y z u) = none) ∧ ∃ d, W.drewN d = wx) (fun i _ => t.length - (intOf i).toNat)
          case atStart => exact ⟨0, by omega, rfl, hide rfl, _, rfl⟩
          case round =>
            obtain ⟨z, hz, rfl, HF3, d, rfl⟩ := hrel
            by_cases hlz : z < t.length
            · go_wp2_with fail
              go_loopw [8] (fun i wx => ∃ p : Nat, p ≤ t.length ∧ i = .int .i64 p ∧ Hid (fs p (fun u => cfAt os M t x y z u) = none) ∧ ∃ d, W.drewN d = wx) (fun i _ => t.length - (intOf i).toNat)
              case atStart => exact ⟨0, by omega, rfl, hide rfl, _, rfl⟩
              case round =>
                obtain ⟨u, hu, rfl, HF4, d, rfl⟩ := hrel
                by_cases hlu : u < t.length
                · have hadd := fun W' (hW : Dr W W') (p q : Nat) (hp : p < t.length) (hq : q < t.length) => l06Add_any W' w.heap.size A os.length c os p q (hsl.keep fun _ _ => by obtain ⟨_, rfl⟩ := hW; rfl) hH (by omega) (by omega) (by omega) (by omega)
                  obtain ⟨i1, ei1⟩ : ∃ i, An os x y = i := ⟨_, rfl⟩
                  obtain ⟨i2, ei2⟩ : ∃ i, An os y z = i := ⟨_, rfl⟩
                  obtain ⟨i3, ei3⟩ : ∃ i, An os z u = i := ⟨_, rfl⟩
                  have hi1 : i1 < t.length := by rw [← ei1]; exact HAl.out x y
                  have hi2 : i2 < t.length := by rw [← ei2]; exact HAl.out y z
                  have hi3 : i3 < t.length := by rw [← ei3]; exact HAl.out z u
                  have H1 := hide (fun W' (hW : Dr W W') => by have h9 := hadd W' hW x y hlx hly; rw [HA.out x y, ei1] at h9; exact h9)
                  have H2 := hide (fun W' (hW : Dr W W') => by have h9 := hadd W' hW y z hly hlz; rw [HA.out y z, ei2] at h9; exact h9)
                  have H3 := hide (fun W' (hW : Dr W W') => by have h9 := hadd W' hW z u hlz hlu; rw [HA.out z u, ei3] at h9; exact h9)
                  have a1 := (V.h1 y hly).1
                  have a2 := (V.h2 y z hly hlz).1
                  have a3 := V.h3 y z u hly hlz hlu
                  have b1' := (V.h1 i1 hi1).1
                  have b2' := (V.h2 i1 z hi1 hlz).1
                  have b3 := V.h3 i1 z u hi1 hlz hlu
                  have c1' := (V.h1 x hlx).1
                  have c2' := (V.h2 x i2 hlx hi2).1
                  have c3 := V.h3 x i2 u hlx hi2 hlu
                  have e2 := (V.h2 x y hlx hly).1
                  have e3 := V.h3 x y i3 hlx hly hi3
                  have e4 := V.h3 x y z hlx hly hlz
                  have hcf := cf5 (HR.out y z u hly hlz hlu) (HR.out i1 z u hi1 hlz hlu) (HR.out x i2 u hlx hi2 hlu) (HR.out x y i3 hlx hly hi3) (HR.out x y z hlx hly hlz)
                  have hco : cob os t x y z u = t3 t y z u - t3 t i1 z u + t3 t x i2 u - t3 t x y i3 + t3 t x y z := by unfold cob; rw [ei1, ei2, ei3]
                  obtain ⟨v1, ev1⟩ : ∃ v, t3 t y z u = v := ⟨_, rfl⟩
                  obtain ⟨v2, ev2⟩ : ∃ v, t3 t i1 z u = v := ⟨_, rfl⟩
                  obtain ⟨v3, ev3⟩ : ∃ v, t3 t x i2 u = v := ⟨_, rfl⟩
                  obtain ⟨v4, ev4⟩ : ∃ v, t3 t x y i3 = v := ⟨_, rfl⟩
                  obtain ⟨v5, ev5⟩ : ∃ v, t3 t x y z = v := ⟨_, rfl⟩
                  rw [ev1, ev2, ev3, ev4, ev5] at hcf hco
                  rw [ev1] at a3
                  rw [ev2] at b3
                  rw [ev3] at c3
                  rw [ev4] at e3
                  rw [ev5] at e4
                  clear hadd ei1 ei2 ei3 ev1 ev2 ev3 ev4 ev5
                  obtain ⟨w1, w2, w3, w4, w5, w6⟩ := hcf
                  obtain ⟨S, hS⟩ : ∃ S, v1 - v2 + v3 - v4 + v5 = S := ⟨_, rfl⟩
                  rw [hS] at w4 w5 w6 hco
                  have HS := hide hS
                  have HCO := hide hco
                  have hM0 : ¬ M = 0 := by omega
                  clear hco
                  go_wp2_with fail
                  refine wp_region_dr [0, 1, 2, 3, 5, 6, 7, 8, 10, 11, 12, 13, 4, 9, 14, 15, 16, 17] 17 (W.drewN d) (by kernel_rfl) (by kernel_rfl) (by kernel_rfl) (fun _ _ _ _ _ h => h) (Dr.refl _) (fun wd hDr => ?_)
                  repeat (first | (apply ord_tk rfl (by rfl) (by rfl) (by rfl); (focus (rintro w ⟨dm, rfl⟩; go_simp; (try with_reducible rfl))); (try simp only [Act.put, List.setIfInBounds_toArray, List.set_cons_zero, List.set_cons_succ])) | (apply ord_skip rfl (by rfl) (by rfl) (fun _ => hDr); (try simp only [Act.put, List.setIfInBounds_toArray, List.set_cons_zero, List.set_cons_succ])))
                  refine ord_do rfl (by rfl) (by rfl) (fun K hK => ?_)
                  go_simp
                  refine (H1.out _ (Dr.trans ⟨d, rfl⟩ hDr)).mono ?_
                  rintro e wd' ⟨rfl, dm, hwd⟩
                  replace hDr := hDr.step hwd
                  clear hwd
                  refine hK.out _ _ (fun _ => hDr) ?_
                  (try simp only [Act.put, List.setIfInBounds_toArray, List.set_cons_zero, List.set_cons_succ])
                  clear hK K
                  repeat (first | (apply ord_tk rfl (by rfl) (by rfl) (by rfl); (focus (rintro w ⟨dm, rfl⟩; go_simp; (try with_reducible rfl))); (try simp only [Act.put, List.setIfInBounds_toArray, List.set_cons_zero, List.set_cons_succ])) | (apply ord_skip rfl (by rfl) (by rfl) (fun _ => hDr); (try simp only [Act.put, List.setIfInBounds_toArray, List.set_cons_zero, List.set_cons_succ])))
                  refine ord_do rfl (by rfl) (by rfl) (fun K hK => ?_)
                  go_simp
                  refine (H2.out _ (Dr.trans ⟨d, rfl⟩ hDr)).mono ?_
                  rintro e wd' ⟨rfl, dm, hwd⟩
                  replace hDr := hDr.step hwd
                  clear hwd
                  refine hK.out _ _ (fun _ => hDr) ?_
                  (try simp only [Act.put, List.setIfInBounds_toArray, List.set_cons_zero, List.set_cons_succ])
                  clear hK K
                  repeat (first | (apply ord_tk rfl (by rfl) (by rfl) (by rfl); (focus (rintro w ⟨dm, rfl⟩; go_simp; (try with_reducible rfl))); (try simp only [Act.put, List.setIfInBounds_toArray, List.set_cons_zero, List.set_cons_succ])) | (apply ord_skip rfl (by rfl) (by rfl) (fun _ => hDr); (try simp only [Act.put, List.setIfInBounds_toArray, List.set_cons_zero, List.set_cons_succ])))
                  refine ord_do rfl (by rfl) (by rfl) (fun K hK => ?_)
                  go_simp
                  refine (H3.out _ (Dr.trans ⟨d, rfl⟩ hDr)).mono ?_
                  rintro e wd' ⟨rfl, dm, hwd⟩
                  replace hDr := hDr.step hwd
                  clear hwd
                  refine hK.out _ _ (fun _ => hDr) ?_
                  (try simp only [Act.put, List.setIfInBounds_toArray, List.set_cons_zero, List.set_cons_succ])
                  clear hK K
                  repeat (first | (apply ord_tk rfl (by rfl) (by rfl) (by rfl); (focus (rintro w ⟨dm, rfl⟩; go_simp; (try with_reducible rfl))); (try simp only [Act.put, List.setIfInBounds_toArray, List.set_cons_zero, List.set_cons_succ])) | (apply ord_skip rfl (by rfl) (by rfl) (fun _ => hDr); (try simp only [Act.put, List.setIfInBounds_toArray, List.set_cons_zero, List.set_cons_succ])))
                  refine ord_do rfl (by rfl) (by rfl) (fun K hK => ?_)
                  go_simp
                  refine hK.out _ _ (fun h => absurd h (by omega)) ?_
                  (try simp only [Act.put, List.setIfInBounds_toArray, List.set_cons_zero, List.set_cons_succ])
                  clear hK K
                  refine ord_nil ?_
                  obtain ⟨dk, rfl⟩ := Dr.trans ⟨d, rfl⟩ hDr
                  clear hDr
                  go_wp2_with fail
                  go_quiet (fail)
                  by_cases hmz : S.tmod M = 0
                  · have HE := hide (fs_next HF4.out (cfAt_no (m := M) (by rw [HCO.out]; exact (tmod_zero hM1).1 hmz)))
                    have hmb : (S.tmod M != 0) = false := by simp [hmz]
                    clear hmz
                    go_wp2_with fail
                    go_roundw
                    case rel => exact ⟨u + 1, by omega, by go_num, HE, _, rfl⟩
                    case measure => simp [intOf] <;> omega
                  · have HE := hide (fs_stop HF1.out (fs_stop HF2.out (fs_stop HF3.out (fs_stop HF4.out (cfAt_1 (m := M) (by rw [HCO.out]; exact fun h => hmz ((tmod_zero hM1).2 h))) hlu) hlz) hly) hlx)
                    have hmb : (S.tmod M != 0) = true := by simp [hmz]
                    clear hmz
                    go_wp2_with fail
                    go_ret
                    exact oret (show cfF os M t = some [(x : Int), (y : Int), (z : Int), (u : Int)] from HE.out) hbW rfl rfl (by unfold maxLen; omega) rfl
                · obtain rfl : u = t.length := by omega
                  have HE := hide (fs_next HF3.out HF4.out)
                  go_wp2_with fail
                  go_roundw
                  case rel => exact ⟨z + 1, by omega, by go_num, HE, d, rfl⟩
                  case measure => simp [intOf] <;> omega
            · obtain rfl : z = t.length := by omega
              have HE := hide (fs_next HF2.out HF3.out)
              go_wp2_with fail
              go_roundw
              case rel => exact ⟨y + 1, by omega, by go_num, HE, d, rfl⟩
              case measure => simp [intOf] <;> omega
        · obtain rfl : y = t.length := by omega
          have HE := hide (fs_next HF1.out HF2.out)
          go_wp2_with fail
          go_roundw
          case rel => exact ⟨x + 1, by omega, by go_num, HE, d, rfl⟩
          case measure => simp [intOf] <;> omega
    · obtain rfl : x = t.length := by omega
      have HE := hide (show cfF os M t = none from HF1.out)
      go_wp2_with fail
      go_ret
      rw [HE.out]
      exact MkO.no (below_drewN hbW _)
end Go.Proofs.Ythjlpgaoemdmkaa
