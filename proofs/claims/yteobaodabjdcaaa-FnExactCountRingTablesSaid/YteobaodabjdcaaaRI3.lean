
/- The walks of duals, unitFault, turnFault of the program's rings. -/
import Derived.Test.YteobaodabjdcaaaRI2
import Derived.Test.YteobaodabjdcaaaNa
namespace Go.Proofs.Yteobaodabjdcaaa
open Go Go.RowKit
set_option linter.unusedSimpArgs false
set_option linter.unusedVariables false
set_option maxRecDepth 100000

theorem goint_info : (Try.prog.info? 3).map (fun i => (i.zero, i.size, i.bytes)) = some (some (.int .i64 0), 1, 8) := by kernel_rfl
/-- It returned a slice of int of its own that holds xs. -/
def MkI (w : World) (xs : List Int) (e : Ending) (w' : World) : Prop := ∃ g cap, e = .returned (.slice (some ⟨g, 0, none⟩) xs.length cap) ∧ OwV w' w.heap.size 3 (.slice (some ⟨g, 0, none⟩) xs.length cap) (xs.map (Value.int .i64)) ∧ Below w.heap.size w w'
set_option maxHeartbeats 2000000 in
theorem duals_any (w : World) (B n c b off : Nat) (b1 o1 c1 : Nat → Nat) (b2 o2 c2 : Nat → Nat → Nat) (t : Tb) (hV : View w B n b off b1 o1 c1 b2 o2 c2 (t3 t)) (hB : B ≤ w.heap.size) (hn : t.length = n) (hn16 : n ≤ 16) (hn1 : 1 ≤ n) (hc : n ≤ c) :
    Calls Try.prog 39 #[.agg #[.slice (some ⟨b, off, none⟩) n c]] w (MkI w (duL t n)) := by
  subst hn
  go_enter Try.func39, Try.ntmps39
  go_wp2_with fail
  obtain ⟨W, hW⟩ : ∃ W, w.alloc (.cells #[.slice (some ⟨b, off, none⟩) t.length c] 31) = W := ⟨_, rfl⟩
  have hbW : Below w.heap.size w W := by rw [← hW]; exact (by repeat (first | assumption | exact Below.refl _ _ | apply below_drewN | apply Below.drew | apply Below.alloc | apply Below.setCell | omega | (focus (simp; done)) | (focus (simp; omega))))
  have hszW : w.heap.size < W.heap.size := by rw [← hW]; simp
  have hsW := hide (show W.heap.size = w.heap.size + 1 by rw [← hW]; simp)
  have q0 : W.cell? ⟨w.heap.size, 0, none⟩ = some (.slice (some ⟨b, off, none⟩) t.length c) := by rw [← hW]; exact (Blk.new _ _ _).cell 0
  rw [hW]
  clear hW
  have hbB := hbW.mono hB
  have hBW : B ≤ W.heap.size := by omega
  have hone := fun W' (h : Below W.heap.size W W') i (hi : i < t.length) => onlyOf_any W' B t.length c b off b1 o1 c1 b2 o2 c2 t i (hV.le (hbB.trans (h.mono hBW))) (Nat.le_trans hBW h.size) rfl hn16 hi hc
  have HO := hide hone
  have hO0 : OwV (W.alloc (.cells #[] 3)) W.heap.size 3 (.slice (some ⟨w.heap.size + 1, 0, none⟩) 0 0) ((duL t 0).map (Value.int .i64)) := OwV.made W 3 _ hsW.out (by rw [hsW.out]; exact Nat.le_refl _)
  have hB0 : Below W.heap.size W (W.alloc (.cells #[] 3)) := (Below.refl _ _).alloc (Nat.le_refl _) _
  clear hone
  go_wp2_with fail
  go_loopw [3, 9] (fun v i wr => ∃ (p : Nat) (vv : Value), p ≤ t.length ∧ i = .int .i64 p ∧ vv = v ∧ OwV wr W.heap.size 3 vv ((duL t p).map (Value.int .i64)) ∧ Below W.heap.size W wr) (fun _ i _ => t.length - (intOf i).toNat)
  case atStart => exact ⟨0, _, by omega, rfl, rfl, hO0, hB0⟩
  case round =>
    clear hO0 hB0
    obtain ⟨p, vv, hp, rfl, rfl, hO, hBe⟩ := hrel
    by_cases hlp : p < t.length
    · have r0 := (hBe.cell (p := ⟨w.heap.size, 0, none⟩) hszW).trans q0
      have hcall := HO.out _ hBe p hlp
      obtain ⟨x, ex⟩ : ∃ x, du t p = x := ⟨_, rfl⟩
      have HL := hide (show ((duL t p).map (Value.int .i64)).length = p by rw [List.length_map, duL_length])
      rw [ex] at hcall
      have EX := hide ex
      have HC := hide hcall
      clear ex hcall
      go_wp2_with fail
      clear r0
      refine HC.out.mono ?_
      rintro e w1 ⟨rfl, hb1⟩
      have hO1 := hO.bel hb1
      have hB1 := hBe.trans (hb1.mono hBe.size)
      clear hO hb1
      have hmx : p ≤ 1048576 := by omega
      go_wp2_with (at_builtin; refine list_pushV 38 3 _ 8 Try.underlying38 goint_info (by omega) rfl _ rfl _ _ rfl W.heap.size vv _ rfl (hO1.alloc _) (.int .i64 x) rfl w1.heap.size _ rfl (Blk.new _ _ _) (by rw [HL.out]; exact hmx) (by simp; exact Nat.le_trans hB1.size (Nat.le_succ _)) (by simp) ?_; intro g cap w4 hP4)
      go_roundw
      case rel => exact ⟨p + 1, _, by omega, by go_num, rfl, by (have h9 := hP4.own); rw [List.length_map] at h9; rw [duL_succ, EX.out, List.map_append]; exact h9, (hB1.alloc hB1.size _).trans (hP4.below (hO1.alloc _) (by simp; exact Nat.le_trans hB1.size (Nat.le_succ _)))⟩
      case measure => simp [intOf] <;> omega
    · obtain rfl : p = t.length := by omega
      rcases hO.form with ⟨_, h0⟩ | ⟨g, cap, rfl, hg0, hg1, hcap, _⟩
      · have h1 := duL_length t t.length; rw [List.map_eq_nil_iff] at h0; rw [h0] at h1; simp only [List.length_nil] at h1; omega
      have HO2 := hide hO
      have HL := hide (show ((duL t t.length).map (Value.int .i64)).length = (duL t t.length).length by rw [List.length_map])
      clear hO hcap
      go_wp2_with fail
      go_ret
      refine ⟨g, cap, by rw [← HL.out]; rfl, ?_, hbW.trans (hBe.mono (Nat.le_of_lt hszW))⟩
      have h2 := HO2.out
      rw [HL.out] at h2
      exact ⟨h2.1, by
        rcases h2.2 with h3 | ⟨g', c', cur, h3, h4, h5⟩
        · exact .inl h3
        · exact .inr ⟨g', c', cur, h3, by omega, h5⟩⟩
set_option maxHeartbeats 4000000 in
theorem unitFault_any (w : World) (c b off : Nat) (b1 o1 c1 : Nat → Nat) (b2 o2 c2 : Nat → Nat → Nat) (t : Tb) (B : Nat) (hV : View w B t.length b off b1 o1 c1 b2 o2 c2 (t3 t)) (hB : B ≤ w.heap.size) (hn16 : t.length ≤ 16) (hn1 : 1 ≤ t.length) (hc : t.length ≤ c) :
    Calls Try.prog 31 #[.agg #[.slice (some ⟨b, off, none⟩) t.length c]] w (MkO w (unitF t)) := by
  go_enter Try.func31, Try.ntmps31
  go_wp2_with fail
  obtain ⟨W, hW⟩ : ∃ W, w.alloc (.cells #[.slice (some ⟨b, off, none⟩) t.length c] 31) = W := ⟨_, rfl⟩
  have hbW : Below w.heap.size w W := by rw [← hW]; exact (by repeat (first | assumption | exact Below.refl _ _ | apply below_drewN | apply Below.drew | apply Below.alloc | apply Below.setCell | omega | (focus (simp; done)) | (focus (simp; omega))))
  have hszW : w.heap.size < W.heap.size := by rw [← hW]; simp
  have hsW := hide (show W.heap.size = w.heap.size + 1 by rw [← hW]; simp)
  have q0 : W.cell? ⟨w.heap.size, 0, none⟩ = some (.slice (some ⟨b, off, none⟩) t.length c) := by rw [← hW]; exact (Blk.new _ _ _).cell 0
  rw [hW]
  clear hW
  have V := hV.le (hbW.mono hB)
  clear hsW
  go_loopw [8] (fun i wr => ∃ p : Nat, p ≤ t.length ∧ i = .int .i64 p ∧ Hid (fs p (fun i => fs t.length fun k => unitAt t i k) = none) ∧ ∃ d, W.drewN d = wr) (fun i _ => t.length - (intOf i).toNat)
  case atStart => exact ⟨0, by omega, rfl, hide rfl, 0, rfl⟩
  case round =>
    obtain ⟨p, hp, rfl, HF1, d, rfl⟩ := hrel
    by_cases hlp : p < t.length
    · go_wp2_with fail
      go_loopw [14] (fun i wr => ∃ q : Nat, q ≤ t.length ∧ i = .int .i64 q ∧ Hid (fs q (fun k => unitAt t p k) = none) ∧ ∃ d, W.drewN d = wr) (fun i _ => t.length - (intOf i).toNat)
      case atStart => exact ⟨0, by omega, rfl, hide rfl, d, rfl⟩
      case round =>
        obtain ⟨q, hq, rfl, HF2, d, rfl⟩ := hrel
        by_cases hlq : q < t.length
        · have a1 := (V.h1 0 (by omega)).1
          have a2 := (V.h2 0 p (by omega) hlp).1
          have a3 := V.h3 0 p q (by omega) hlp hlq
          have e1 := (V.h1 p hlp).1
          have e2 := (V.h2 p 0 hlp (by omega)).1
          have e3 := V.h3 p 0 q hlp (by omega) hlq
          simp only [Nat.add_zero] at a1 e2
          have n0 : 0 < t.length := by omega
          obtain ⟨x, ex⟩ : ∃ x, t3 t 0 p q = x := ⟨_, rfl⟩
          obtain ⟨y, ey⟩ : ∃ y, t3 t p 0 q = y := ⟨_, rfl⟩
          obtain ⟨z, ez⟩ : ∃ z, dl p q = z := ⟨_, rfl⟩
          have hdel := fun W => delta_any W p q
          rw [ez] at hdel
          rw [ex] at a3
          rw [ey] at e3
          have EX := hide ex
          have EY := hide ey
          have EZ := hide ez
          clear ex ey ez
          by_cases hx : x = z
          · by_cases hy : y = z
            · have HG := hide (fs_next HF2.out (unitAt_no (by rw [EX.out, hx, EZ.out]) (by rw [EY.out, hy, EZ.out])))
              subst hx
              subst hy
              go_wp2_with fail
              refine wp_region_dr [0, 1, 2, 3, 4, 5, 6, 7, 8, 9, 10, 11, 12, 13, 14, 15, 16, 17, 18, 19, 20, 21, 22, 23, 24, 25, 26, 27, 28, 29] 30 (W.drewN d) (by kernel_rfl) (by kernel_rfl) (by kernel_rfl) (fun _ _ _ _ _ h => h) (Dr.refl _) (fun wd hDr => ?_)
              repeat (first | (apply ord_tk rfl (by rfl) (by rfl) (by rfl); (focus (rintro w ⟨dm, rfl⟩; go_simp; (try with_reducible rfl))); (try simp only [Act.put, List.setIfInBounds_toArray, List.set_cons_zero, List.set_cons_succ])) | (apply ord_skip rfl (by rfl) (by rfl) (fun _ => hDr); (try simp only [Act.put, List.setIfInBounds_toArray, List.set_cons_zero, List.set_cons_succ])))
              refine ord_do rfl (by rfl) (by rfl) (fun K hK => ?_)
              go_simp
              refine (hdel _).mono ?_
              rintro e wd' ⟨rfl, dm, hwd⟩
              replace hDr := hDr.step hwd
              clear hwd
              refine hK.out _ _ (fun _ => hDr) ?_
              (try simp only [Act.put, List.setIfInBounds_toArray, List.set_cons_zero, List.set_cons_succ])
              clear hK K
              repeat (first | (apply ord_tk rfl (by rfl) (by rfl) (by rfl); (focus (rintro w ⟨dm, rfl⟩; go_simp; (try with_reducible rfl))); (try simp only [Act.put, List.setIfInBounds_toArray, List.set_cons_zero, List.set_cons_succ])) | (apply ord_skip rfl (by rfl) (by rfl) (fun _ => hDr); (try simp only [Act.put, List.setIfInBounds_toArray, List.set_cons_zero, List.set_cons_succ])))
              refine ord_do rfl (by rfl) (by rfl) (fun K hK => ?_)
              go_simp
              refine (hdel _).mono ?_
              rintro e wd' ⟨rfl, dm, hwd⟩
              replace hDr := hDr.step hwd
              clear hwd
              refine hK.out _ _ (fun _ => hDr) ?_
              (try simp only [Act.put, List.setIfInBounds_toArray, List.set_cons_zero, List.set_cons_succ])
              clear hK K
              repeat (first | (apply ord_tk rfl (by rfl) (by rfl) (by rfl); (focus (rintro w ⟨dm, rfl⟩; go_simp; (try with_reducible rfl))); (try simp only [Act.put, List.setIfInBounds_toArray, List.set_cons_zero, List.set_cons_succ])) | (apply ord_skip rfl (by rfl) (by rfl) (fun _ => hDr); (try simp only [Act.put, List.setIfInBounds_toArray, List.set_cons_zero, List.set_cons_succ])))
              refine ord_nil ?_
              have hD2 := Dr.trans ⟨d, rfl⟩ hDr
              clear hDr
              go_wp2_with fail
              go_roundw
              case rel => exact ⟨q + 1, by omega, by go_num, HG, by obtain ⟨dk, rfl⟩ := hD2; exact ⟨dk, rfl⟩⟩
              case measure => simp [intOf] <;> omega
            · have HG := hide (fs_stop HF1.out (fs_stop HF2.out (unitAt_2 (by rw [EY.out, EZ.out]; exact hy)) hlq) hlp)
              subst hx
              have hyb : (y != x) = true := by simp [hy]
              clear hy
              go_wp2_with fail
              refine wp_region_dr [0, 1, 2, 3, 4, 5, 6, 7, 8, 9, 10, 11, 12, 13, 14, 15, 16, 17, 18, 19, 20, 21, 22, 23, 24, 25, 26, 27, 28, 29] 30 (W.drewN d) (by kernel_rfl) (by kernel_rfl) (by kernel_rfl) (fun _ _ _ _ _ h => h) (Dr.refl _) (fun wd hDr => ?_)
              repeat (first | (apply ord_tk rfl (by rfl) (by rfl) (by rfl); (focus (rintro w ⟨dm, rfl⟩; go_simp; (try with_reducible rfl))); (try simp only [Act.put, List.setIfInBounds_toArray, List.set_cons_zero, List.set_cons_succ])) | (apply ord_skip rfl (by rfl) (by rfl) (fun _ => hDr); (try simp only [Act.put, List.setIfInBounds_toArray, List.set_cons_zero, List.set_cons_succ])))
              refine ord_do rfl (by rfl) (by rfl) (fun K hK => ?_)
              go_simp
              refine (hdel _).mono ?_
              rintro e wd' ⟨rfl, dm, hwd⟩
              replace hDr := hDr.step hwd
              clear hwd
              refine hK.out _ _ (fun _ => hDr) ?_
              (try simp only [Act.put, List.setIfInBounds_toArray, List.set_cons_zero, List.set_cons_succ])
              clear hK K
              repeat (first | (apply ord_tk rfl (by rfl) (by rfl) (by rfl); (focus (rintro w ⟨dm, rfl⟩; go_simp; (try with_reducible rfl))); (try simp only [Act.put, List.setIfInBounds_toArray, List.set_cons_zero, List.set_cons_succ])) | (apply ord_skip rfl (by rfl) (by rfl) (fun _ => hDr); (try simp only [Act.put, List.setIfInBounds_toArray, List.set_cons_zero, List.set_cons_succ])))
              refine ord_do rfl (by rfl) (by rfl) (fun K hK => ?_)
              go_simp
              refine (hdel _).mono ?_
              rintro e wd' ⟨rfl, dm, hwd⟩
              replace hDr := hDr.step hwd
              clear hwd
              refine hK.out _ _ (fun _ => hDr) ?_
              (try simp only [Act.put, List.setIfInBounds_toArray, List.set_cons_zero, List.set_cons_succ])
              clear hK K
              repeat (first | (apply ord_tk rfl (by rfl) (by rfl) (by rfl); (focus (rintro w ⟨dm, rfl⟩; go_simp; (try with_reducible rfl))); (try simp only [Act.put, List.setIfInBounds_toArray, List.set_cons_zero, List.set_cons_succ])) | (apply ord_skip rfl (by rfl) (by rfl) (fun _ => hDr); (try simp only [Act.put, List.setIfInBounds_toArray, List.set_cons_zero, List.set_cons_succ])))
              refine ord_nil ?_
              obtain ⟨dk, rfl⟩ := Dr.trans ⟨d, rfl⟩ hDr
              clear hDr
              go_wp2_with fail
              go_ret
              refine cast (congrArg (fun o => MkO _ o _ _) (show some [0, (p : Int), (q : Int)] = unitF t from HG.out.symm)) (mkO_new (w0 := w) (xs := [0, p, q]) (Blk.new' _ _ _ _ rfl) rfl rfl hbW.size (by unfold maxLen; omega) ((below_drewN hbW _).alloc hbW.size _))
          · have HG := hide (fs_stop HF1.out (fs_stop HF2.out (unitAt_1 (by rw [EX.out, EZ.out]; exact hx)) hlq) hlp)
            have hxb : (x != z) = true := by simp [hx]
            clear hx
            go_wp2_with fail
            refine wp_region_dr [0, 1, 2, 3, 4, 5, 6, 7, 8, 9, 10, 11, 12, 13, 14, 15, 16, 17, 18, 19, 20, 21, 22, 23, 24, 25, 26, 27, 28, 29] 30 (W.drewN d) (by kernel_rfl) (by kernel_rfl) (by kernel_rfl) (fun _ _ _ _ _ h => h) (Dr.refl _) (fun wd hDr => ?_)
            repeat (first | (apply ord_tk rfl (by rfl) (by rfl) (by rfl); (focus (rintro w ⟨dm, rfl⟩; go_simp; (try with_reducible rfl))); (try simp only [Act.put, List.setIfInBounds_toArray, List.set_cons_zero, List.set_cons_succ])) | (apply ord_skip rfl (by rfl) (by rfl) (fun _ => hDr); (try simp only [Act.put, List.setIfInBounds_toArray, List.set_cons_zero, List.set_cons_succ])))
            refine ord_do rfl (by rfl) (by rfl) (fun K hK => ?_)
            go_simp
            refine (hdel _).mono ?_
            rintro e wd' ⟨rfl, dm, hwd⟩
            replace hDr := hDr.step hwd
            clear hwd
            refine hK.out _ _ (fun _ => hDr) ?_
            (try simp only [Act.put, List.setIfInBounds_toArray, List.set_cons_zero, List.set_cons_succ])
            clear hK K
            repeat (first | (apply ord_tk rfl (by rfl) (by rfl) (by rfl); (focus (rintro w ⟨dm, rfl⟩; go_simp; (try with_reducible rfl))); (try simp only [Act.put, List.setIfInBounds_toArray, List.set_cons_zero, List.set_cons_succ])) | (apply ord_skip rfl (by rfl) (by rfl) (fun _ => hDr); (try simp only [Act.put, List.setIfInBounds_toArray, List.set_cons_zero, List.set_cons_succ])))
            refine ord_nil ?_
            obtain ⟨dk, rfl⟩ := Dr.trans ⟨d, rfl⟩ hDr
            clear hDr
            go_wp2_with fail
            go_ret
            refine cast (congrArg (fun o => MkO _ o _ _) (show some [0, (p : Int), (q : Int)] = unitF t from HG.out.symm)) (mkO_new (w0 := w) (xs := [0, p, q]) (Blk.new' _ _ _ _ rfl) rfl rfl hbW.size (by unfold maxLen; omega) ((below_drewN hbW _).alloc hbW.size _))
        · obtain rfl : q = t.length := by omega
          have HG := hide (fs_next HF1.out HF2.out)
          go_wp2_with fail
          go_roundw
          case rel => exact ⟨p + 1, by omega, by go_num, HG, d, rfl⟩
          case measure => simp [intOf] <;> omega
    · obtain rfl : p = t.length := by omega
      have HG := hide (show unitF t = none from HF1.out)
      go_wp2_with fail
      go_ret
      exact cast (congrArg (fun o => MkO _ o _ _) HG.out.symm) (MkO.no (below_drewN hbW _))
end Go.Proofs.Yteobaodabjdcaaa
