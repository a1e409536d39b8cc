
/- The walk of l18Standard (the reference's StandardBraiding). -/
import Derived.Test.YthjlpgaoemdmkaaCB8
namespace Go.Proofs.Ythjlpgaoemdmkaa
open Go Go.RowKit Grp
set_option linter.unusedSimpArgs false
set_option linter.unusedVariables false
set_option maxRecDepth 100000
def sbC (n : Nat) (a : Int) (x y z : Nat) : Int := (if (n : Int) ≤ (y : Int) + z then a * n * (x : Int) else 0) % (2 * n : Int)
def sbT (n : Nat) (a : Int) (x y : Nat) : Int := a * (x : Int) * (y : Int) % (2 * n : Int)
/-- A world's first n blocks: the world in which a row began, with what has been stored since. -/
def trim (w : World) (n : Nat) : World := { w with heap := w.heap.extract 0 n }
theorem trim_size {w : World} {n : Nat} (h : n ≤ w.heap.size) : (trim w n).heap.size = n := by simp [trim]; omega
theorem trim_below {w : World} {n : Nat} (h : n ≤ w.heap.size) : Below (trim w n).heap.size (trim w n) w := ⟨rfl, rfl, rfl, by rw [trim_size h]; exact h, fun b hb => by
  rw [trim_size h] at hb
  simp only [trim]
  rw [Array.getElem?_extract]
  rw [if_pos (by omega)]; simp⟩
theorem trim_wr {w4 wr : World} {fp : Nat → Prop} (h : Wr w4 wr fp) : Wr w4 (trim wr w4.heap.size) fp := ⟨h.os, h.tape, h.output, by rw [trim_size h.size]; exact Nat.le_refl _, fun b hb hn => by
  rw [← h.block b hb hn]
  exact ((trim_below h.size).block b (by rw [trim_size h.size]; exact hb)).symm⟩
set_option maxHeartbeats 8000000 in
theorem l18Standard_any (w : World) (n : Nat) (a : Int) (n1 : 1 ≤ n) (n8 : n ≤ 8) (a0 : 0 ≤ a) (a1 : a ≤ 15) : Calls Try.prog 63 #[.int .i64 n, .int .i64 a] w (MkE braiding_E w (([(n : Int)], 2 * (n : Int), cub n (sbC n a)), mat n (sbT n a))) := by
  obtain ⟨M, hM⟩ : ∃ M : Nat, 2 * n = M := ⟨_, rfl⟩
  have hMi : 2 * (n : Int) = (M : Int) := by omega
  rw [hMi]
  go_enter Try.func63, Try.ntmps63
  have hwM : IntKind.i64.wrap (2 * (n : Int)) = (M : Int) := by rw [hMi]; exact wr64 _ ⟨by omega, by omega⟩
  go_wp2_with fail
  obtain ⟨W, hW⟩ : ∃ W, (w.alloc (.cells #[.slice none 0 0, .int .i64 0, .slice none 0 0, .slice none 0 0] 37)).alloc (.cells #[.int .i64 n] 2) = W := ⟨_, rfl⟩
  have hb0 : Below w.heap.size w W := by rw [← hW]; exact (by repeat (first | assumption | exact Below.refl _ _ | apply below_drewN | apply Below.drew | apply Below.alloc | apply Below.setCell | omega | (focus (simp; done)) | (focus (simp; omega))))
  have br : Blk W w.heap.size 37 #[.slice none 0 0, .int .i64 0, .slice none 0 0, .slice none 0 0] := by rw [← hW]; exact (Blk.new _ _ _).alloc _
  have ho : E1 W (.slice (some ⟨w.heap.size + 1, 0, none⟩) 1 1) [(n : Int)] (fun b => w.heap.size < b ∧ b < W.heap.size) := by
    have h1 : Ow W (w.heap.size + 1) (.slice (some ⟨w.heap.size + 1, 0, none⟩) 1 1) [(n : Int)] := by rw [← hW]; exact Ow.made' (xs := [(n : Int)]) _ _ (w.heap.size + 1) 1 (by simp) rfl (Nat.le_refl _) rfl (by unfold maxLen; omega)
    exact (E1.of_ow h1 (by unfold i64ok; simp; omega)).mono (fun b hb => ⟨by have := hb.1; omega, hb.2⟩) (fun b hb => hb.2)
  have hsz : w.heap.size < W.heap.size := by rw [← hW]; simp; omega
  rw [hW]
  clear hW
  refine (l06Empty_any W n (by omega)).mono ?_
  rintro e w1 ⟨vv, rfl, hG, hb1⟩
  have hv := hG.toL
  obtain ⟨Av, cv, rfl⟩ := hG.val
  rw [List.length_replicate] at hv ⊢
  rw [← pc_zero (n := n) (f := sbC n a)] at hv
  have br1 := br.all hb1
  have ho1 := E1.below ho hb1
  have hb2 := hb0.trans (hb1.mono hb0.size)
  have hs1 := hb1.size
  obtain ⟨S, hS⟩ : ∃ S, W.heap.size = S := ⟨_, rfl⟩
  rw [hS] at hsz ho1 hv hs1
  clear hG br ho hS hb1 hb0
  go_wp2_with fail
  obtain ⟨g, hg⟩ : ∃ g, w1.heap.size = g := ⟨_, rfl⟩
  rw [hg] at hs1 hv
  obtain ⟨w2, hw2⟩ : ∃ w2, w1.alloc (.cells #[.slice (some ⟨w.heap.size + 1, 0, none⟩) 1 1, .int .i64 M, .slice Av n cv, .slice none 0 0] 37) = w2 := ⟨_, rfl⟩
  have hb2a : Below w1.heap.size w1 w2 := by rw [← hw2]; exact (Below.refl _ _).alloc (Nat.le_refl _) _
  have hS2 : SBr w w.heap.size S g (.slice (some ⟨w.heap.size + 1, 0, none⟩) 1 1) [(n : Int)] M (.slice Av n cv) (pc n (sbC n a) 0 0 0) (.slice none 0 0) [] w2 := by
    refine ⟨br1.all hb2a, by rw [← hw2]; exact Blk.new' _ _ _ _ hg, E1.below ho1 hb2a, E3.below hv hb2a, Grow.nil _, Nat.le_refl _, hsz, hs1, hb2.trans (hb2a.mono hb2.size)⟩
  try rw [hg]
  rw [hw2]
  clear hw2 br1 ho1 hv hb2 hb2a hg
  go_loopw [7] (fun i wr => ∃ (x : Nat) (vt : Value), x ≤ n ∧ i = .int .i64 x ∧ SBr w w.heap.size S g (.slice (some ⟨w.heap.size + 1, 0, none⟩) 1 1) [(n : Int)] M (.slice Av n cv) (pc n (sbC n a) x 0 0) vt ((List.range x).map fun x => (List.range n).map (sbT n a x)) wr) (fun i _ => n - (intOf i).toNat)
  case atStart => exact ⟨0, _, by omega, rfl, hS2⟩
  case round =>
    clear hS2
    obtain ⟨x, vt, hx, rfl, hS⟩ := hrel
    by_cases hlx : x < n
    · go_wp2_with fail
      obtain ⟨w4, rfl⟩ : ∃ w4, w4 = wr := ⟨_, rfl⟩
      have hgl := hS.out.lt
      have hloS := hS.lo
      have hrS := hS.rS
      obtain ⟨w5, hw5⟩ : ∃ w5, w4.alloc (.cells #[] 2) = w5 := ⟨_, rfl⟩
      have hb5 : Below w4.heap.size w4 w5 := by rw [← hw5]; exact (Below.refl _ _).alloc (Nat.le_refl _) _
      have hO5 : Ow w5 w4.heap.size (.slice (some ⟨w4.heap.size, 0, none⟩) 0 0) ((List.range 0).map (sbT n a x)) := by rw [← hw5]; exact Ow.made' (xs := []) _ _ w4.heap.size 0 rfl rfl (Nat.le_refl _) rfl (by unfold maxLen; omega)
      have hE5 := E3.below hS.vals hb5
      have hW5 : Wr w4 w5 (fun b => (S ≤ b ∧ b < g) ∨ w4.heap.size ≤ b) := Wr.of_below hb5
      rw [hw5]
      clear hw5 hb5
      go_loopw [8, 9] (fun rv i wx => ∃ (y : Nat) (vr : Value), y ≤ n ∧ rv = vr ∧ i = .int .i64 y ∧ E3 wx (.slice Av n cv) (pc n (sbC n a) x y 0) (fun b => S ≤ b ∧ b < g) ∧ Ow wx w4.heap.size vr ((List.range y).map (sbT n a x)) ∧ Wr w4 wx (fun b => (S ≤ b ∧ b < g) ∨ w4.heap.size ≤ b)) (fun _ i _ => n - (intOf i).toNat)
      case atStart => exact ⟨0, _, by omega, rfl, rfl, hE5, hO5, hW5⟩
      case round =>
        clear hE5 hO5 hW5
        obtain ⟨y, rv, hy, rfl, rfl, hE, hO, hW⟩ := hrel
        have hszx := hW.size
        by_cases hly : y < n
        · have b0 : 0 ≤ a * (x : Int) := Int.mul_nonneg a0 (by omega)
          have b1 : a * (x : Int) ≤ 15 * 8 := Int.mul_le_mul a1 (by omega) (by omega) (by omega)
          have b2 : 0 ≤ a * (x : Int) * (y : Int) := Int.mul_nonneg b0 (by omega)
          have b3 : a * (x : Int) * (y : Int) ≤ 120 * 8 := Int.mul_le_mul (by omega) (by omega) (by omega) (by omega)
          have p1 : IntKind.i64.wrap (a * (x : Int)) = a * (x : Int) := wr64 _ ⟨by omega, by omega⟩
          have p2 : IntKind.i64.wrap (a * (x : Int) * (y : Int)) = a * (x : Int) * (y : Int) := wr64 _ ⟨by omega, by omega⟩
          have p3 : (a * (x : Int) * (y : Int)).tmod M = sbT n a x y := by rw [Int.tmod_eq_emod_of_nonneg b2]; unfold sbT; rw [hMi]
          have p4 : ¬ M = 0 := by omega
          obtain ⟨q, hq⟩ : ∃ q, sbT n a x y = q := ⟨_, rfl⟩
          rw [hq] at p3
          have HQ := hide hq
          clear hq
          have hln : ((List.range y).map (sbT n a x)).length = y := by simp
          go_wp2_with (at_builtin; refine list_push _ rfl _ _ rfl w4.heap.size _ _ rfl (hO.alloc _) q wr.heap.size _ rfl (Blk.new _ _ _) (by rw [hln]; omega) (by simp; omega) (by simp) ?_; intro g9 cap w6 hP)
          have hW6 : Wr wr w6 (fun b => (S ≤ b ∧ b < g) ∨ w4.heap.size ≤ b) := by
            have hbB := hP.below (hO.alloc _) (by simp; omega)
            exact (Wr.of_below ((Below.refl _ _).alloc (Nat.le_refl _) _)).trans ⟨hbB.os, hbB.tape, hbB.output, hbB.size, fun b _ hn => hbB.block b (by omega)⟩
          have hO6 := hP.own
          rw [HQ.out.symm, ← List.map_singleton (f := sbT n a x), ← List.map_append, ← List.range_succ] at hO6
          have hE6 : E3 w6 (.slice Av n cv) (pc n (sbC n a) x y 0) (fun b => S ≤ b ∧ b < g) := by
            have hbB := hP.below (hO.alloc _) (by simp; omega)
            exact kp3 _ _ _ _ _ hE (fun b hb => (hbB.block b (by have := hb.2; omega)).trans (((Below.refl _ _).alloc (Nat.le_refl _) _ : Below wr.heap.size wr _).block b (by have := hb.2; omega))) (Nat.le_trans (by simp) hbB.size)
          have hW7 := hW.trans hW6
          clear hW6 hP hO hE hW p1 p2 p3 b0 b1 b2 b3 HQ hln
          rw [List.length_map, List.length_range] at hO6
          go_loopw [10] (fun i wx => ∃ z : Nat, z ≤ n ∧ i = .int .i64 z ∧ E3 wx (.slice Av n cv) (pc n (sbC n a) x y z) (fun b => S ≤ b ∧ b < g) ∧ Ow wx w4.heap.size (.slice (some ⟨g9, 0, none⟩) (y + 1) cap) ((List.range (y + 1)).map (sbT n a x)) ∧ Wr w4 wx (fun b => (S ≤ b ∧ b < g) ∨ w4.heap.size ≤ b)) (fun i _ => n - (intOf i).toNat)
          case atStart => exact ⟨0, by omega, rfl, hE6, hO6, hW7⟩
          case round =>
            clear hE6 hO6 hW7
            obtain ⟨z, hz, rfl, hE, hO, hW⟩ := hrel
            by_cases hlz : z < n
            · by_cases hc : n ≤ y + z
              · have b0 : 0 ≤ a * (n : Int) := Int.mul_nonneg a0 (by omega)
                have b1 : a * (n : Int) ≤ 15 * 8 := Int.mul_le_mul a1 (by omega) (by omega) (by omega)
                have b2 : 0 ≤ a * (n : Int) * (x : Int) := Int.mul_nonneg b0 (by omega)
                have b3 : a * (n : Int) * (x : Int) ≤ 120 * 8 := Int.mul_le_mul (by omega) (by omega) (by omega) (by omega)
                have p1 : IntKind.i64.wrap (a * (n : Int)) = a * (n : Int) := wr64 _ ⟨by omega, by omega⟩
                have p2 : IntKind.i64.wrap (a * (n : Int) * (x : Int)) = a * (n : Int) * (x : Int) := wr64 _ ⟨by omega, by omega⟩
                have p3 : (a * (n : Int) * (x : Int)).tmod M = sbC n a x y z := by rw [Int.tmod_eq_emod_of_nonneg b2]; unfold sbC; rw [if_pos (by omega), hMi]
                have p4 : ¬ M = 0 := by omega
                have w9 : IntKind.i64.wrap ((y : Int) + z) = (y : Int) + z := wr64 _ ⟨by omega, by omega⟩
                have e1 := Int.emod_nonneg (a * (n : Int) * (x : Int)) (show (M : Int) ≠ 0 by omega)
                have e2 := Int.emod_lt_of_pos (a * (n : Int) * (x : Int)) (show (0 : Int) < M by omega)
                rw [← Int.tmod_eq_emod_of_nonneg b2, p3] at e1 e2
                obtain ⟨gv, g1, g2, cv', c1, c2, ev, kg0, kg1, kg2, x0, x1, ⟨u, x2⟩, x3, x4, HL⟩ := E3.later hE hlx hly hlz ⟨by omega, by omega⟩
                injection ev with ev1 _ ev2
                subst ev1
                subst ev2
                have o2 := (hW.blk hS.out (by omega)).cell 2
                have HH := hide (HL wr (Below.refl _ _))
                have HO := hide hO
                obtain ⟨q, hq⟩ : ∃ q, sbC n a x y z = q := ⟨_, rfl⟩
                rw [hq] at p3 e1 e2 HH
                clear HL hE hO hq
                have hws : Wr wr (wr.setCell ⟨g2, z, none⟩ (.int .i64 q)) (fun b => b = g2) := ⟨rfl, rfl, rfl, by simp [World.setCell], fun b _ hn => Below.heap_setCell _ ⟨g2, z, none⟩ _ b (fun e => hn e)⟩
                have HW := hide (hW.trans (hws.mono fun b hb => .inl (by rw [hb]; exact x4)))
                have HO2 := hide (hws.own HO.out (fun b hb e => by have := (HO.out.lt b hb).1; have := x4.2; omega))
                clear hws HO hW
                go_wp2_with fail
                go_roundw
                case rel => exact ⟨z + 1, by omega, by go_num, HH.out, HO2.out, HW.out⟩
                case measure => simp [intOf] <;> omega
              · have h9 := hE
                rw [← pc_skip (show sbC n a x y z = 0 by unfold sbC; rw [if_neg (by omega)]; simp)] at h9
                have w9 : IntKind.i64.wrap ((y : Int) + z) = (y : Int) + z := wr64 _ ⟨by omega, by omega⟩
                go_wp2_with fail
                go_roundw
                case rel => exact ⟨z + 1, by omega, by go_num, h9, hO, hW⟩
                case measure => simp [intOf] <;> omega
            · obtain rfl : n = z := by omega
              have h9 := hE
              rw [pc_nextz] at h9
              go_wp2_with fail
              go_roundw
              case rel => exact ⟨y + 1, _, by omega, rfl, by go_num, h9, hO, hW⟩
              case measure => simp [intOf] <;> omega
        · obtain rfl : n = y := by omega
          have h9 := hE
          rw [pc_nexty] at h9
          have hS9 := hS.fr hW h9
          have hT0 := hS.tab.wr kp1 (trim_wr hW) (fun b hb => by rcases hb with hb | hb; exact .inr (by omega); exact .inl hb)
          have hTB := trim_below hW.size
          have hTs := trim_size hW.size
          obtain ⟨wT, hwT⟩ : ∃ wT, trim wr w4.heap.size = wT := ⟨_, rfl⟩
          rw [hwT] at hT0 hTB hTs
          clear hwT
          have hrng : ∀ v ∈ (List.range n).map (sbT n a x), i64ok v := by
            intro v hv
            obtain ⟨t, _, rfl⟩ := List.mem_map.1 hv
            unfold sbT
            have e1 := Int.emod_nonneg (a * (x : Int) * (t : Int)) (show (2 * n : Int) ≠ 0 by omega)
            have e2 := Int.emod_lt_of_pos (a * (x : Int) * (t : Int)) (show (0 : Int) < (2 * n : Int) by omega)
            exact ⟨by omega, by omega⟩
          obtain ⟨Ar, cr, rfl, _⟩ := hO.sl hrng
          have hRow := E1.of_ow hO hrng
          rw [List.length_map, List.length_range] at hRow hO ⊢
          obtain ⟨w6, rfl⟩ : ∃ w6, w6 = wr := ⟨_, rfl⟩
          have hbw : Below w6.heap.size w6 (w6.alloc (.cells #[.slice Ar n cr] 22)) := (Below.refl _ _).alloc (Nat.le_refl _) _
          have hRow6 := E1.below hRow hbw
          have y3 := hS9.out.cell 3
          have z3 := hS9.out.frozen 3
          have hgx := hS9.out.lt
          obtain ⟨At, ct, rfl⟩ := hS.tab.val
          have hlen : ((List.range x).map fun x => (List.range n).map (sbT n a x)).length ≤ 1048576 := by simp; omega
          rw [List.length_map, List.length_range] at *
          have hgT : g + 1 ≤ wT.heap.size := by omega
          have hsn : ((List.range x).map fun x => (List.range n).map (sbT n a x)) ++ [(List.range n).map (sbT n a x)] = (List.range (x + 1)).map fun x => (List.range n).map (sbT n a x) := by simp [List.range_succ]
          go_wp2_with (at_builtin; refine list_pushG kp1 35 22 _ 24 Try.underlying35 rows_info (by omega) rfl _ rfl _ _ rfl (g + 1) (.slice At x ct) _ rfl wT hT0 (hTB.trans (hbw.mono hTB.size)) (.slice Ar n cr) _ _ hRow6 (fun b hb => ⟨by have := hb.1; omega, by have := hb.2; simp; omega⟩) rfl w6.heap.size _ rfl (Blk.new _ _ _) (by simp; omega) hgT (by simp) ?_; intro g' cap' w7 hG7 hB7 hW7 hg7 hg8; have t2 := (hB7.cell (p := ⟨g, 3, none⟩) (Nat.lt_succ_self g)).trans ((hbw.cell (p := ⟨g, 3, none⟩) hgx).trans y3); have t3 := (hB7.frozen (p := ⟨g, 3, none⟩) (Nat.lt_succ_self g)).trans ((hbw.frozen (p := ⟨g, 3, none⟩) hgx).trans z3))
          have hN := (hS9.bel hbw).next hB7 hG7
          rw [List.length_map, List.length_range, hsn] at hN
          go_roundw
          case rel => exact ⟨x + 1, _, by omega, by go_num, hN⟩
          case measure => simp [intOf] <;> omega
    · obtain rfl : n = x := by omega
      have h9 := hS
      rw [pc_all] at h9
      obtain ⟨At, ct, rfl⟩ := hS.tab.val
      rw [List.length_map, List.length_range] at h9
      have x0 := h9.out.cell 0
      have x1 := h9.out.cell 1
      have x2 := h9.out.cell 2
      have x3 := h9.out.cell 3
      have g0 := h9.res.frozen 0
      have g1 := h9.res.frozen 1
      have g2 := h9.res.frozen 2
      have g3 := h9.res.frozen 3
      have y0 := h9.res.cell 0
      have y1 := h9.res.cell 1
      have y2 := h9.res.cell 2
      have y3 := h9.res.cell 3
      have hb4 := put4_blk (x := .slice (some ⟨w.heap.size + 1, 0, none⟩) 1 1) (y := .int .i64 M) (z := .slice Av n cv) (u := .slice At n ct) h9.res
      have q0 := hb4.cell 0
      have q1 := hb4.cell 1
      have q2 := hb4.cell 2
      have q3 := hb4.cell 3
      unfold put4 put3 at q0 q1 q2 q3
      go_wp2_with fail
      refine bodyPost_ret (v := .agg #[.slice (some ⟨w.heap.size + 1, 0, none⟩) 1 1, .int .i64 M, .slice Av n cv, .slice At n ct]) (by simp [results, Try.results63, go_sem, q0, q1, q2, q3]) rfl ?_
      exact h9.fin ⟨by omega, by omega⟩
end Go.Proofs.Ythjlpgaoemdmkaa
