
/- The walks of opposite and copyRing. -/
import Derived.Test.YteobaodabjdcaaaCP4
namespace Go.Proofs.Yteobaodabjdcaaa
open Go Go.RowKit
set_option linter.unusedSimpArgs false
set_option linter.unusedVariables false
set_option maxRecDepth 100000
def opp (f : F3) : F3 := fun i j k => f j i k
theorem mat_snoc (n k : Nat) (f : Nat → Nat → Int) : ((List.range k).map fun y => (List.range n).map fun z => f y z) ++ [(List.range n).map fun z => f k z] = (List.range (k + 1)).map fun y => (List.range n).map fun z => f y z := by simp [List.range_succ]
set_option maxHeartbeats 8000000 in
theorem opposite_any (w : World) (n c : Nat) (A : Option Addr) (f : F3) (h : Sl3 w w.heap.size A n c (cub n f)) (h1 : 1 ≤ n) (hn : n ≤ 16) : Calls Try.prog 35 #[.agg #[.slice A n c]] w (MkR w n (opp f)) := by
  obtain ⟨b, off, rfl, hb⟩ := RdL.addr h (by omega)
  have hb1 : Below w.heap.size w (((w.alloc (.cells #[.slice (some ⟨b, off, none⟩) n c] 31)).alloc (.cells #[.slice none 0 0] 31)).alloc (.cells #[.slice none 0 0] 31)) := (by repeat (first | assumption | exact Below.refl _ _ | apply below_drewN | apply Below.drew | apply Below.alloc | apply Below.setCell | omega | (focus (simp; done)) | (focus (simp; omega))))
  have bI0 : Blk (((w.alloc (.cells #[.slice (some ⟨b, off, none⟩) n c] 31)).alloc (.cells #[.slice none 0 0] 31)).alloc (.cells #[.slice none 0 0] 31)) w.heap.size 31 #[.slice (some ⟨b, off, none⟩) n c] := ((Blk.new _ _ _).alloc _).alloc _
  have bR0 : Blk (((w.alloc (.cells #[.slice (some ⟨b, off, none⟩) n c] 31)).alloc (.cells #[.slice none 0 0] 31)).alloc (.cells #[.slice none 0 0] 31)) (w.heap.size + 1) 31 #[.slice none 0 0] := (Blk.new' _ _ _ _ (by simp)).alloc _
  have bO0 : Blk (((w.alloc (.cells #[.slice (some ⟨b, off, none⟩) n c] 31)).alloc (.cells #[.slice none 0 0] 31)).alloc (.cells #[.slice none 0 0] 31)) (w.heap.size + 1 + 1) 31 #[.slice none 0 0] := Blk.new' _ _ _ _ (by simp)
  have hz1 : (((w.alloc (.cells #[.slice (some ⟨b, off, none⟩) n c] 31)).alloc (.cells #[.slice none 0 0] 31)).alloc (.cells #[.slice none 0 0] 31)).heap.size = w.heap.size + 3 := by simp
  have hG0 : Grow E2 33 (w.heap.size + 3) (((w.alloc (.cells #[.slice (some ⟨b, off, none⟩) n c] 31)).alloc (.cells #[.slice none 0 0] 31)).alloc (.cells #[.slice none 0 0] 31)) (.slice none 0 0) ((List.range 0).map fun x => mat n (opp f x)) := Grow.nil _
  go_enter Try.func35, Try.ntmps35
  go_wp2_with fail
  obtain ⟨W0, hW0⟩ : ∃ W, ((w.alloc (.cells #[.slice (some ⟨b, off, none⟩) n c] 31)).alloc (.cells #[.slice none 0 0] 31)).alloc (.cells #[.slice none 0 0] 31) = W := ⟨_, rfl⟩
  rw [hW0] at hb1 bI0 bR0 bO0 hz1 hG0 ⊢
  clear hW0
  have hcap := h.cap
  go_loopw [11] (fun i wr => ∃ (k : Nat) (vv : Value), k ≤ n ∧ i = .int .i64 k ∧ Blk wr w.heap.size 31 #[.slice (some ⟨b, off, none⟩) n c] ∧ Blk wr (w.heap.size + 1) 31 #[.slice none 0 0] ∧ Blk wr (w.heap.size + 1 + 1) 31 #[vv] ∧ Grow E2 33 (w.heap.size + 3) wr vv ((List.range k).map fun x => mat n (opp f x)) ∧ Below w.heap.size w wr ∧ w.heap.size + 3 ≤ wr.heap.size) (fun i _ => n - (intOf i).toNat)
  case atStart => exact ⟨0, _, by omega, rfl, bI0, bR0, bO0, hG0, hb1, by omega⟩
  case round =>
    clear bI0 bR0 bO0 hG0 hb1
    obtain ⟨k, vv, hk, rfl, bI, bR, bO, hG, hB, hsz⟩ := hrel
    by_cases hlt : k < n
    · obtain ⟨w1, rfl⟩ : ∃ w1, w1 = wr := ⟨_, rfl⟩
      have q0 := bI.cell 0
      have hM0 : Grow E1 35 w1.heap.size (w1.alloc (.cells #[] 35)) (.slice (some ⟨w1.heap.size, 0, none⟩) 0 0) ((List.range 0).map fun y => (List.range n).map fun z => opp f k y z) := Grow.start rfl (Nat.le_refl _)
      have p0 := (bI.alloc (.cells #[] 35)).cell 0
      go_wp2_with fail
      clear q0 p0
      go_loopw [5, 18] (fun o i wx => ∃ (j : Nat) (mm : Value), j ≤ n ∧ i = .int .i64 j ∧ mm = o ∧ Grow E1 35 w1.heap.size wx mm ((List.range j).map fun y => (List.range n).map fun z => opp f k y z) ∧ Below w1.heap.size w1 wx) (fun _ i _ => n - (intOf i).toNat)
      case atStart => exact ⟨0, _, by omega, rfl, rfl, hM0, (Below.refl _ _).alloc (Nat.le_refl _) _⟩
      case round =>
        clear hM0
        obtain ⟨j, mm, hj, rfl, rfl, hM, hBx⟩ := hrel
        have hsx := hBx.size
        by_cases hlj : j < n
        · have hBwx := hB.trans (hBx.mono hB.size)
          have hS := Sl3.below h hBwx
          have q0 := (bI.all hBx).cell 0
          obtain ⟨A2, n2, c2, k0, hS2⟩ := hS.row (cub_row hlj)
          obtain rfl : n2 = n := by rw [← hS2.len, mat_len]
          obtain ⟨b2, o2, rfl, hb2⟩ := RdL.addr hS2 (by omega)
          obtain ⟨A3, n3, c3, k1, hS3⟩ := hS2.row (mat_row hlt)
          obtain rfl : n3 = n2 := by rw [← hS3.len]; simp
          have hcap2 := hS2.cap
          have hCl := hide (clone_any wr w.heap.size A3 n3 c3 _ hS3 (by have := hBwx.size; omega) (by omega))
          have hrng := hide hS3.rng
          clear hS hS2 hS3
          go_wp2_with fail
          refine hCl.out.mono ?_
          rintro e w4 ⟨v4, rfl, hO4, hb4⟩
          obtain ⟨A4, n4, c4, rfl⟩ : ∃ A n c, v4 = Value.slice A n c := by rcases hO4.form with ⟨rfl, _⟩ | ⟨g, cap, rfl, _⟩ <;> exact ⟨_, _, _, rfl⟩
          have hE4 := E1.of_owr hO4 hrng.out
          have hbw : Below wr.heap.size wr (w4.alloc (.cells #[.slice A4 n4 c4] 35)) := hb4.alloc hb4.size _
          have hE5 := E1.below hE4 ((Below.refl _ _).alloc (Nat.le_refl _) (.cells #[.slice A4 n4 c4] 35))
          have hl : ((List.range j).map fun y => (List.range n3).map fun z => opp f k y z).length ≤ 1048576 := by simp; omega
          clear hE4 hO4 k0 k1 q0
          go_wp2_with (at_builtin; go_loud (refine list_pushG kp1 33 35 _ 24 Try.underlying33 rows_info (by omega) rfl _ rfl _ _ rfl w1.heap.size mm _ rfl wr hM hbw (.slice A4 n4 c4) _ _ hE5 (fun b hb => ⟨hb.1, by simp; have := hb.2; omega⟩) rfl w4.heap.size _ rfl (Blk.new _ _ _) hl hsx (by simp) ?_); intro g cap w5 hG5 hB5 hW5 hg5 hg6)
          rw [show (List.map (f j k) (List.range n3)) = ((List.range n3).map fun z => opp f k j z) from rfl, mat_snoc, List.length_map, List.length_range] at hG5
          have hbx := (hBx.trans (hbw.mono hsx)).trans hB5
          clear hM hE5 hbw
          go_roundw
          case rel => exact ⟨j + 1, _, by omega, by go_num, by simp, hG5, hbx⟩
          case measure => simp [intOf] <;> omega
        · obtain rfl : j = n := by omega
          obtain ⟨Am, cm, rfl⟩ := hM.val
          have hEm := hM.toL
          rw [List.length_map, List.length_range] at hM hEm ⊢
          have hbw : Below wr.heap.size wr (wr.alloc (.cells #[.slice Am j cm] 33)) := (Below.refl _ _).alloc (Nat.le_refl _) _
          have hEm2 := OwL.bel kp1 hEm hbw
          have hlen : ((List.range k).map fun x => mat j (opp f x)).length ≤ 1048576 := by simp; omega
          have hbx := hB.trans (hBx.mono hB.size)
          have hsy := hbx.size
          obtain ⟨Av, cv, rfl⟩ := hG.val
          rw [List.length_map, List.length_range] at hG bO
          have bO2 := bO.all hBx
          have o0 := bO2.cell 0
          have o1 := (bO2.alloc (.cells #[.slice Am j cm] 33)).cell 0
          go_wp2_with (at_builtin; go_loud (refine list_pushG kp2 29 33 _ 24 Try.underlying29 rows2_info (by omega) rfl _ rfl _ _ rfl (w.heap.size + 3) _ _ rfl w1 hG (hBx.trans (hbw.mono hsx)) (.slice Am j cm) _ _ hEm2 (fun b hb => ⟨hb.1, by have := hb.2; simp; omega⟩) rfl wr.heap.size _ rfl (Blk.new _ _ _) hlen hsz (by simp) ?_); intro g cap w5 hG5 hB5 hW5 hg5 hg6; have bO5 := (bO2.all hbw).below hB5 (by omega); have f5 := bO5.frozen 0; have f6 := bO5.cell 0)
          rw [show ((List.range j).map fun y => (List.range j).map fun z => opp f k y z) = mat j (opp f k) from rfl, cub_snoc, List.length_map, List.length_range] at hG5
          have hG6 := hG5.set kp2 (g := w.heap.size + 1 + 1) (by omega) 0 (.slice (some ⟨g, 0, none⟩) (k + 1) cap)
          have bO6 := bO5.store 0 (.slice (some ⟨g, 0, none⟩) (k + 1) cap)
          have bI6 := (((bI.all hBx).all hbw).below hB5 (by omega)).far (p := ⟨w.heap.size + 1 + 1, 0, none⟩) (by show w.heap.size ≠ w.heap.size + 1 + 1; omega) (.slice (some ⟨g, 0, none⟩) (k + 1) cap)
          have bR6 := (((bR.all hBx).all hbw).below hB5 (by omega)).far (p := ⟨w.heap.size + 1 + 1, 0, none⟩) (by show w.heap.size + 1 ≠ w.heap.size + 1 + 1; omega) (.slice (some ⟨g, 0, none⟩) (k + 1) cap)
          have hB6 := ((hbx.trans (hbw.mono hsy)).trans (hB5.mono (by omega))).setCell (p := ⟨w.heap.size + 1 + 1, 0, none⟩) (by show w.heap.size ≤ w.heap.size + 1 + 1; omega) (.slice (some ⟨g, 0, none⟩) (k + 1) cap)
          have hz6 := hB5.size
          clear hG hG5 bO5 f5 f6 hEm hEm2 hM bO2 o0 o1
          go_roundw
          case rel => exact ⟨k + 1, _, by omega, by go_num, bI6, bR6, bO6, hG6, hB6, by simp [World.setCell] at hz6 ⊢; omega⟩
          case measure => simp [intOf] <;> omega
    · obtain rfl : k = n := by omega
      obtain ⟨A0, cc, rfl⟩ := hG.val
      rw [List.length_map, List.length_range] at hG bO
      have c0 := bO.cell 0
      have c1 := bR.cell 0
      have f1 := bR.frozen 0
      have hG5 := (hG.set kp2 (g := w.heap.size + 1) (by omega) 0 (.slice A0 k cc)).toL
      have bR5 := (bR.store 0 (.slice A0 k cc)).cell 0
      have hB5 := hB.setCell (p := ⟨w.heap.size + 1, 0, none⟩) (by show w.heap.size ≤ w.heap.size + 1; omega) (.slice A0 k cc)
      go_wp2_with fail
      refine bodyPost_ret (v := .agg #[.slice A0 k cc]) (by simp [results, Try.results35, go_sem, bR5]) rfl ?_
      exact ⟨_, rfl, OwL.mono hG5 (fun b hb => ⟨by have := hb.1; omega, hb.2⟩) (fun b hb => hb.2), hB5⟩
theorem copyRing_any (w : World) (n c : Nat) (A : Option Addr) (f : F3) (h : Sl3 w w.heap.size A n c (cub n f)) (h1 : 1 ≤ n) (hn : n ≤ 16) : Calls Try.prog 25 #[.agg #[.slice A n c]] w (MkR w n f) := by
  have hb1 : Below w.heap.size w ((w.alloc (.cells #[.slice A n c] 31)).alloc (.cells #[.slice none 0 0] 31)) := (by repeat (first | assumption | exact Below.refl _ _ | apply below_drewN | apply Below.drew | apply Below.alloc | apply Below.setCell | omega | (focus (simp; done)) | (focus (simp; omega))))
  have bI0 : Blk ((w.alloc (.cells #[.slice A n c] 31)).alloc (.cells #[.slice none 0 0] 31)) w.heap.size 31 #[.slice A n c] := (Blk.new _ _ _).alloc _
  have bR0 : Blk ((w.alloc (.cells #[.slice A n c] 31)).alloc (.cells #[.slice none 0 0] 31)) (w.heap.size + 1) 31 #[.slice none 0 0] := Blk.new' _ _ _ _ (by simp)
  have q0 := bI0.cell 0
  have hO := hide (fun (W : World) (hb : Below w.heap.size w W) => opposite_any W n c A f ((h.below hb).more hb.size) h1 hn)
  go_enter Try.func25, Try.ntmps25
  go_wp2_with fail
  refine (hO.out _ hb1).mono ?_
  rintro e w2 ⟨v2, rfl, hE2, hb2⟩
  obtain ⟨A2, c2, rfl, hS2⟩ := E3.sl3 hE2
  rw [cb_len] at hS2 ⊢
  have hO2 := hide (opposite_any w2 n c2 A2 (opp f) hS2 h1 hn)
  go_wp2_with fail
  refine hO2.out.mono ?_
  rintro e w3 ⟨v3, rfl, hE3, hb3⟩
  obtain ⟨A3, c3, rfl, hS3⟩ := E3.sl3 hE3
  rw [cb_len] at hS3 hE3 ⊢
  have bR3 := (bR0.all hb2).all hb3
  have c1 := bR3.cell 0
  have f1 := bR3.frozen 0
  have hl1 := (bR0.all hb2).lt
  have bR5 := (bR3.store 0 (.slice A3 n c3)).cell 0
  have hz1 := hb1.size
  have hz2 := hb2.size
  have hB5 := ((hb1.trans (hb2.mono hz1)).trans (hb3.mono (by omega))).setCell (p := ⟨w.heap.size + 1, 0, none⟩) (by show w.heap.size ≤ w.heap.size + 1; omega) (.slice A3 n c3)
  have hE5 := kp3 _ (w3.setCell ⟨w.heap.size + 1, 0, none⟩ (.slice A3 n c3)) _ _ _ hE3 (fun b hb => Below.heap_setCell _ _ _ _ (by show b ≠ w.heap.size + 1; have := hb.1; omega)) (by simp [World.setCell])
  go_wp2_with fail
  refine bodyPost_ret (v := .agg #[.slice A3 n c3]) (by simp [results, Try.results25, go_sem, bR5]) rfl ?_
  refine ⟨_, rfl, OwL.mono (show OwL E2 _ _ _ (cub n f) _ from hE5) (fun b hb => ⟨by have := hb.1; omega, by have := hb.2; simpa [World.setCell] using this⟩) (fun b hb => hb.2), hB5⟩
end Go.Proofs.Yteobaodabjdcaaa
