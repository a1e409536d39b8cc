
/- The walk of StandardBraiding of the program, and its law. -/
import Derived.Test.YthjlpgaoemdmkaaCB11
namespace Go.Proofs.Ythjlpgaoemdmkaa
open Go Go.RowKit Grp
set_option linter.unusedSimpArgs false
set_option linter.unusedVariables false
set_option maxRecDepth 100000
set_option maxHeartbeats 8000000 in
theorem implSB_c (w : World) (n : Int) (wn : i64ok n) (a : Int) (wa : i64ok a) : Calls Try.prog 23 #[.int .i64 n, .int .i64 a] w (MkEC braiding_E w (sbR n a) (sbK n a)) := by
  by_cases h1 : 1 ≤ n ∧ n ≤ 8
  rotate_left
  · have hE := hide (sb_1 (n := n) (a := a) (by unfold sbB; rw [inB_f h1]; rfl))
    have hi := inB_f h1
    clear h1
    go_enter Try.func23, Try.ntmps23
    go_wp2_with fail
    obtain ⟨W, hW⟩ : ∃ W, ((w.alloc (.cells #[.int .i64 n] 2)).alloc (.cells #[.int .i64 a] 2)).alloc (.cells #[.slice none 0 0, .int .i64 0, .slice none 0 0, .slice none 0 0] 37) = W := ⟨_, rfl⟩
    have hb0 : Below w.heap.size w W := by rw [← hW]; exact (by repeat (first | assumption | exact Below.refl _ _ | apply below_drewN | apply Below.drew | apply Below.alloc | apply Below.setCell | omega | (focus (simp; done)) | (focus (simp; omega))))
    have bn : Blk W w.heap.size 2 #[.int .i64 n] := by rw [← hW]; exact ((Blk.new _ _ _).alloc _).alloc _
    have ba : Blk W (w.heap.size + 1) 2 #[.int .i64 a] := by rw [← hW]; exact (Blk.new' _ _ _ _ (by simp)).alloc _
    have br : Blk W (w.heap.size + 1 + 1) 37 #[.slice none 0 0, .int .i64 0, .slice none 0 0, .slice none 0 0] := by rw [← hW]; exact Blk.new' _ _ _ _ (by simp)
    rw [hW]
    clear hW
    refine (within_v false n 1 8 _ hi).mono ?_
    rintro e w1 ⟨rfl, d, rfl⟩
    obtain ⟨w1, hw1⟩ : ∃ wbb, World.drewN W d = wbb := ⟨_, rfl⟩
    have hb1 : Below (World.heap W).size W w1 := by rw [← hw1]; exact below_drewN (Below.refl _ _) _
    rw [hw1]
    clear hw1
    replace br := br.all hb1
    replace bn := bn.all hb1
    replace ba := ba.all hb1
    replace hb0 := hb0.trans (hb1.mono hb0.size)
    clear hb1
    clear bn ba
    have gg0 := br.frozen 0
    have gg1 := br.frozen 1
    have gg2 := br.frozen 2
    have gg3 := br.frozen 3
    have y0 := br.cell 0
    have y1 := br.cell 1
    have y2 := br.cell 2
    have y3 := br.cell 3
    have hb4 := put4_blk (x := .slice none 0 0) (y := .int .i64 0) (z := .slice none 0 0) (u := .slice none 0 0) br
    have q0 := hb4.cell 0
    have q1 := hb4.cell 1
    have q2 := hb4.cell 2
    have q3 := hb4.cell 3
    unfold put4 put3 at q0 q1 q2 q3
    go_wp2_with fail
    refine bodyPost_ret (v := .tuple #[.agg #[.slice none 0 0, .int .i64 0, .slice none 0 0, .slice none 0 0], .int .i64 2]) (by simp [results, Try.results23, go_sem, q0, q1, q2, q3]) rfl ?_
    rw [hE.out.1, hE.out.2]
    exact ⟨_, rfl, braiding_zero _ _ (fun b hb => hb.2), put4_below hb0 (by omega)⟩
  obtain ⟨hn1, hn8⟩ := h1
  obtain ⟨n, rfl⟩ : ∃ m : Nat, n = (m : Int) := ⟨n.toNat, by omega⟩
  have hi := inB_t hn1 hn8
  have hw0 : IntKind.i64.wrap (2 * (n : Int)) = 2 * (n : Int) := wr64 _ ⟨by omega, by omega⟩
  have hw1 : IntKind.i64.wrap (2 * (n : Int) - 1) = 2 * (n : Int) - 1 := wr64 _ ⟨by omega, by omega⟩
  by_cases h2 : 0 ≤ a ∧ a ≤ 2 * (n : Int) - 1
  rotate_left
  · have hi2 := inB_f h2
    have hE := hide (sb_1 (n := n) (a := a) (by unfold sbB; rw [hi2, Bool.and_false]))
    clear h2
    go_enter Try.func23, Try.ntmps23
    go_wp2_with fail
    obtain ⟨W, hW⟩ : ∃ W, ((w.alloc (.cells #[.int .i64 (n : Int)] 2)).alloc (.cells #[.int .i64 a] 2)).alloc (.cells #[.slice none 0 0, .int .i64 0, .slice none 0 0, .slice none 0 0] 37) = W := ⟨_, rfl⟩
    have hb0 : Below w.heap.size w W := by rw [← hW]; exact (by repeat (first | assumption | exact Below.refl _ _ | apply below_drewN | apply Below.drew | apply Below.alloc | apply Below.setCell | omega | (focus (simp; done)) | (focus (simp; omega))))
    have bn : Blk W w.heap.size 2 #[.int .i64 (n : Int)] := by rw [← hW]; exact ((Blk.new _ _ _).alloc _).alloc _
    have ba : Blk W (w.heap.size + 1) 2 #[.int .i64 a] := by rw [← hW]; exact (Blk.new' _ _ _ _ (by simp)).alloc _
    have br : Blk W (w.heap.size + 1 + 1) 37 #[.slice none 0 0, .int .i64 0, .slice none 0 0, .slice none 0 0] := by rw [← hW]; exact Blk.new' _ _ _ _ (by simp)
    rw [hW]
    clear hW
    refine (within_v true n 1 8 _ hi).mono ?_
    rintro e w1 ⟨rfl, d, rfl⟩
    obtain ⟨w1, hw1⟩ : ∃ wbb, World.drewN W d = wbb := ⟨_, rfl⟩
    have hb1 : Below (World.heap W).size W w1 := by rw [← hw1]; exact below_drewN (Below.refl _ _) _
    rw [hw1]
    clear hw1
    replace br := br.all hb1
    replace bn := bn.all hb1
    replace ba := ba.all hb1
    replace hb0 := hb0.trans (hb1.mono hb0.size)
    clear hb1
    have c1 := bn.cell 0
    have c2 := ba.cell 0
    go_wp2_with fail
    clear c1 c2
    refine (within_v false a 0 (2 * n - 1) _ hi2).mono ?_
    rintro e w2 ⟨rfl, d, rfl⟩
    obtain ⟨w2, hw1⟩ : ∃ wbb, World.drewN w1 d = wbb := ⟨_, rfl⟩
    have hb1 : Below (World.heap w1).size w1 w2 := by rw [← hw1]; exact below_drewN (Below.refl _ _) _
    rw [hw1]
    clear hw1
    replace br := br.all hb1
    replace bn := bn.all hb1
    replace ba := ba.all hb1
    replace hb0 := hb0.trans (hb1.mono hb0.size)
    clear hb1
    clear bn ba
    have gg0 := br.frozen 0
    have gg1 := br.frozen 1
    have gg2 := br.frozen 2
    have gg3 := br.frozen 3
    have y0 := br.cell 0
    have y1 := br.cell 1
    have y2 := br.cell 2
    have y3 := br.cell 3
    have hb4 := put4_blk (x := .slice none 0 0) (y := .int .i64 0) (z := .slice none 0 0) (u := .slice none 0 0) br
    have q0 := hb4.cell 0
    have q1 := hb4.cell 1
    have q2 := hb4.cell 2
    have q3 := hb4.cell 3
    unfold put4 put3 at q0 q1 q2 q3
    go_wp2_with fail
    refine bodyPost_ret (v := .tuple #[.agg #[.slice none 0 0, .int .i64 0, .slice none 0 0, .slice none 0 0], .int .i64 2]) (by simp [results, Try.results23, go_sem, q0, q1, q2, q3]) rfl ?_
    rw [hE.out.1, hE.out.2]
    exact ⟨_, rfl, braiding_zero _ _ (fun b hb => hb.2), put4_below hb0 (by omega)⟩
  have hi2 := inB_t h2.1 h2.2
  have hB : sbB n a = true := by unfold sbB; rw [hi, hi2]; rfl
  obtain ⟨hk0, hk1⟩ := h2
  have hp0 : 0 ≤ a * (n : Int) := Int.mul_nonneg hk0 (by omega)
  have hp1 : a * (n : Int) ≤ 15 * 8 := Int.mul_le_mul (by omega) (by omega) (by omega) (by omega)
  have hw2 : IntKind.i64.wrap (a * (n : Int)) = a * (n : Int) := wr64 _ ⟨by omega, by omega⟩
  by_cases h3 : a * (n : Int) % 2 = 1
  · have hE := hide (sb_2 (n := n) (a := a) hB h3)
    obtain ⟨q, hq⟩ : ∃ q, a * (n : Int) = q := ⟨_, rfl⟩
    replace hw2 : IntKind.i64.wrap (a * (n : Int)) = q := hw2.trans hq
    rw [hq] at h3 hp0 hp1
    have hw3 : q.tmod 2 = 1 := by rw [Int.tmod_eq_emod_of_nonneg hp0]; exact h3
    clear hq h3
    go_enter Try.func23, Try.ntmps23
    go_wp2_with fail
    obtain ⟨W, hW⟩ : ∃ W, ((w.alloc (.cells #[.int .i64 (n : Int)] 2)).alloc (.cells #[.int .i64 a] 2)).alloc (.cells #[.slice none 0 0, .int .i64 0, .slice none 0 0, .slice none 0 0] 37) = W := ⟨_, rfl⟩
    have hb0 : Below w.heap.size w W := by rw [← hW]; exact (by repeat (first | assumption | exact Below.refl _ _ | apply below_drewN | apply Below.drew | apply Below.alloc | apply Below.setCell | omega | (focus (simp; done)) | (focus (simp; omega))))
    have bn : Blk W w.heap.size 2 #[.int .i64 (n : Int)] := by rw [← hW]; exact ((Blk.new _ _ _).alloc _).alloc _
    have ba : Blk W (w.heap.size + 1) 2 #[.int .i64 a] := by rw [← hW]; exact (Blk.new' _ _ _ _ (by simp)).alloc _
    have br : Blk W (w.heap.size + 1 + 1) 37 #[.slice none 0 0, .int .i64 0, .slice none 0 0, .slice none 0 0] := by rw [← hW]; exact Blk.new' _ _ _ _ (by simp)
    rw [hW]
    clear hW
    refine (within_v true n 1 8 _ hi).mono ?_
    rintro e w1 ⟨rfl, d, rfl⟩
    obtain ⟨w1, hw1⟩ : ∃ wbb, World.drewN W d = wbb := ⟨_, rfl⟩
    have hb1 : Below (World.heap W).size W w1 := by rw [← hw1]; exact below_drewN (Below.refl _ _) _
    rw [hw1]
    clear hw1
    replace br := br.all hb1
    replace bn := bn.all hb1
    replace ba := ba.all hb1
    replace hb0 := hb0.trans (hb1.mono hb0.size)
    clear hb1
    have c1 := bn.cell 0
    have c2 := ba.cell 0
    go_wp2_with fail
    clear c1 c2
    refine (within_v true a 0 (2 * n - 1) _ hi2).mono ?_
    rintro e w2 ⟨rfl, d, rfl⟩
    obtain ⟨w2, hw1⟩ : ∃ wbb, World.drewN w1 d = wbb := ⟨_, rfl⟩
    have hb1 : Below (World.heap w1).size w1 w2 := by rw [← hw1]; exact below_drewN (Below.refl _ _) _
    rw [hw1]
    clear hw1
    replace br := br.all hb1
    replace bn := bn.all hb1
    replace ba := ba.all hb1
    replace hb0 := hb0.trans (hb1.mono hb0.size)
    clear hb1
    have c1 := bn.cell 0
    have c2 := ba.cell 0
    clear bn ba
    have gg0 := br.frozen 0
    have gg1 := br.frozen 1
    have gg2 := br.frozen 2
    have gg3 := br.frozen 3
    have y0 := br.cell 0
    have y1 := br.cell 1
    have y2 := br.cell 2
    have y3 := br.cell 3
    have hb4 := put4_blk (x := .slice none 0 0) (y := .int .i64 0) (z := .slice none 0 0) (u := .slice none 0 0) br
    have q0 := hb4.cell 0
    have q1 := hb4.cell 1
    have q2 := hb4.cell 2
    have q3 := hb4.cell 3
    unfold put4 put3 at q0 q1 q2 q3
    go_wp2_with fail
    refine bodyPost_ret (v := .tuple #[.agg #[.slice none 0 0, .int .i64 0, .slice none 0 0, .slice none 0 0], .int .i64 5]) (by simp [results, Try.results23, go_sem, q0, q1, q2, q3]) rfl ?_
    rw [hE.out.1, hE.out.2]
    exact ⟨_, rfl, braiding_zero _ _ (fun b hb => hb.2), put4_below hb0 (by omega)⟩
  have hE := hide (sb_3 (n := n) (a := a) hB h3)
  obtain ⟨q, hq⟩ : ∃ q, a * (n : Int) = q := ⟨_, rfl⟩
  replace hw2 : IntKind.i64.wrap (a * (n : Int)) = q := hw2.trans hq
  rw [hq] at h3 hp0 hp1
  have hw3 : q.tmod 2 = 0 := by rw [Int.tmod_eq_emod_of_nonneg hp0]; omega
  have hH := cyc_okH (n := n) (by omega) (by omega)
  have hpr : (prodL [(n : Int)]).toNat = n := by simp [prodL]
  clear hq h3
  go_enter Try.func23, Try.ntmps23
  go_wp2_with fail
  obtain ⟨W, hW⟩ : ∃ W, ((w.alloc (.cells #[.int .i64 (n : Int)] 2)).alloc (.cells #[.int .i64 a] 2)).alloc (.cells #[.slice none 0 0, .int .i64 0, .slice none 0 0, .slice none 0 0] 37) = W := ⟨_, rfl⟩
  have hb0 : Below w.heap.size w W := by rw [← hW]; exact (by repeat (first | assumption | exact Below.refl _ _ | apply below_drewN | apply Below.drew | apply Below.alloc | apply Below.setCell | omega | (focus (simp; done)) | (focus (simp; omega))))
  have bn : Blk W w.heap.size 2 #[.int .i64 (n : Int)] := by rw [← hW]; exact ((Blk.new _ _ _).alloc _).alloc _
  have ba : Blk W (w.heap.size + 1) 2 #[.int .i64 a] := by rw [← hW]; exact (Blk.new' _ _ _ _ (by simp)).alloc _
  have br : Blk W (w.heap.size + 1 + 1) 37 #[.slice none 0 0, .int .i64 0, .slice none 0 0, .slice none 0 0] := by rw [← hW]; exact Blk.new' _ _ _ _ (by simp)
  rw [hW]
  clear hW
  refine (within_v true n 1 8 _ hi).mono ?_
  rintro e w1 ⟨rfl, d, rfl⟩
  obtain ⟨w1, hw1⟩ : ∃ wbb, World.drewN W d = wbb := ⟨_, rfl⟩
  have hb1 : Below (World.heap W).size W w1 := by rw [← hw1]; exact below_drewN (Below.refl _ _) _
  rw [hw1]
  clear hw1
  replace br := br.all hb1
  replace bn := bn.all hb1
  replace ba := ba.all hb1
  replace hb0 := hb0.trans (hb1.mono hb0.size)
  clear hb1
  have c1 := bn.cell 0
  have c2 := ba.cell 0
  go_wp2_with fail
  clear c1 c2
  refine (within_v true a 0 (2 * n - 1) _ hi2).mono ?_
  rintro e w2 ⟨rfl, d, rfl⟩
  obtain ⟨w2, hw1⟩ : ∃ wbb, World.drewN w1 d = wbb := ⟨_, rfl⟩
  have hb1 : Below (World.heap w1).size w1 w2 := by rw [← hw1]; exact below_drewN (Below.refl _ _) _
  rw [hw1]
  clear hw1
  replace br := br.all hb1
  replace bn := bn.all hb1
  replace ba := ba.all hb1
  replace hb0 := hb0.trans (hb1.mono hb0.size)
  clear hb1
  have c1 := bn.cell 0
  have c2 := ba.cell 0
  have l1 := bn.lt
  have l2 := ba.lt
  have l33 := br.lt
  go_wp2_with fail
  clear c1 c2
  obtain ⟨w3, hw3'⟩ : ∃ w3, w2.alloc (.cells #[.int .i64 n] 2) = w3 := ⟨_, rfl⟩
  have hb2 : Below w2.heap.size w2 w3 := by rw [← hw3']; exact (Below.refl _ _).alloc (Nat.le_refl _) _
  have ho : Sl w3 w3.heap.size (some ⟨w2.heap.size, 0, none⟩) 1 1 [(n : Int)] := by
    have h1 : Ow w3 w2.heap.size (.slice (some ⟨w2.heap.size, 0, none⟩) 1 1) [(n : Int)] := by rw [← hw3']; exact Ow.made' (xs := [(n : Int)]) _ _ w2.heap.size 1 rfl rfl (Nat.le_refl _) rfl (by unfold maxLen; omega)
    obtain ⟨A, c, e, hs⟩ := h1.sl (by unfold i64ok; simp; omega)
    cases e
    exact hs
  replace bn := bn.all hb2
  replace ba := ba.all hb2
  replace br := br.all hb2
  replace hb0 := hb0.trans (hb2.mono hb0.size)
  have l23 := hb2.size
  rw [hw3']
  clear hw3' hb2
  have hcb := cby_sb w3 _ 1 1 [(n : Int)] (2 * n) (w.heap.size + 1) w.heap.size (fun x y z => if (n : Int) ≤ (y : Int) + z then a * (n : Int) * (x : Int) else 0) ho (by omega) hH (by simp [prodL]; omega) (by omega) (by omega)
    (fun x y z hx hy hz wd hwd => sbF1_any wd _ _ x y z n a ((ba.all hwd).cell 0) ((bn.all hwd).cell 0) (by omega) (by omega) (by omega) hk0 (by omega) (by omega))
  rw [hpr] at hcb
  refine hcb.mono ?_
  rintro e w4 ⟨v, rfl, he, hb3⟩
  obtain ⟨h0c, u1, u2, F1, F2, rfl, he1, he2, _⟩ := id he
  obtain ⟨A1, c1, rfl, _⟩ := he1.sl
  obtain ⟨D1, e1, rfl, _⟩ := E3.sl3 he2
  clear he1 he2 hcb
  have hcl : (cub n (sbC n a)).length = n := by simp [cub]
  have he' : cocycle_E w4 (.agg #[.slice A1 [(n : Int)].length c1, .int .i64 (2 * n), .slice D1 n e1]) ([(n : Int)], 2 * (n : Int), cub n (sbC n a)) (fun b => w3.heap.size ≤ b ∧ b < w4.heap.size) := by
    have h9 : (cub n fun x y z => (if (n : Int) ≤ (y : Int) + z then a * (n : Int) * (x : Int) else 0) % (2 * (n : Int))).length = n := hcl
    rw [h9] at he
    exact he
  rw [show (cub n fun x y z => (if (n : Int) ≤ (y : Int) + z then a * (n : Int) * (x : Int) else 0) % (2 * (n : Int))).length = n from hcl]
  clear he hcl
  replace br := br.all hb3
  replace ba := ba.all hb3
  have l3 := hb3.size
  replace hb0 := hb0.trans (hb3.mono hb0.size)
  clear hb3 bn
  simp only [List.length_cons, List.length_nil, Nat.zero_add] at he'
  have h4l := hb0.size
  have l9 := ba.lt
  go_wp2_with fail
  obtain ⟨w5, hw5⟩ : ∃ w5, w4.alloc (.cells #[.slice A1 1 c1, .int .i64 (2 * n), .slice D1 n e1] 25) = w5 := ⟨_, rfl⟩
  have hb5 : Below w4.heap.size w4 w5 := by rw [← hw5]; exact (Below.refl _ _).alloc (Nat.le_refl _) _
  have he5 := cocycle_below he' hb5
  replace ba := ba.all hb5
  replace br := br.all hb5
  replace hb0 := hb0.trans (hb5.mono hb0.size)
  rw [hw5]
  clear hw5 he'
  refine (bby_any w5 A1 1 c1 (2 * n) D1 n e1 (w.heap.size + 1) (fun x y => a * (x : Int) * (y : Int)) (by omega) (by omega) (by omega) (fun x y hx hy wd hwd => sbF2_any wd _ x y a ((ba.all hwd).cell 0) (by omega) (by omega) hk0 (by omega))).mono ?_
  rintro e w6 ⟨u, rfl, hT, hb6⟩
  have hT' : E2 w6 u (mat n (sbT n a)) (fun b => w5.heap.size ≤ b ∧ b < w6.heap.size) := hT
  obtain ⟨H1, k1, hu, _⟩ := E2.sl2 hT'
  have hml : (mat n (sbT n a)).length = n := by simp [mat]
  rw [hml] at hu
  subst hu
  have he6 := cocycle_below he5 hb6
  have br6 := br.all hb6
  have hb06 := hb0.trans (hb6.mono hb0.size)
  have l5 := hb5.size
  have l6 := hb6.size
  have hB6 : braiding_E w6 (.agg #[.slice A1 1 c1, .int .i64 (2 * n), .slice D1 n e1, .slice H1 n k1]) (([(n : Int)], 2 * (n : Int), cub n (sbC n a)), mat n (sbT n a)) (fun b => w3.heap.size ≤ b ∧ b < w6.heap.size) :=
    ⟨_, _, _, _, _, _, rfl, he6, hT', fun b h1 h2 => by have := h1.2; have := h2.1; omega, fun b hb => ⟨hb.1, by have := hb.2; omega⟩, fun b hb => ⟨by have := hb.1; omega, hb.2⟩, fun b hb => hb.2⟩
  have hE1 := hE.out.1
  have hE2 := hE.out.2
  rw [← hE1] at hB6
  have HB := hide hB6
  have HE := hide hE2
  have l7 : w.heap.size + 1 + 1 < w3.heap.size := by omega
  clear hB6 hE1 hE2 hE hT hT' he5 he6 ba br hb0 hml ho
  have gg0 := br6.frozen 0
  have gg1 := br6.frozen 1
  have gg2 := br6.frozen 2
  have gg3 := br6.frozen 3
  have y0 := br6.cell 0
  have y1 := br6.cell 1
  have y2 := br6.cell 2
  have y3 := br6.cell 3
  have hb4 := put4_blk (x := .slice A1 1 c1) (y := .int .i64 (2 * n)) (z := .slice D1 n e1) (u := .slice H1 n k1) br6
  have q0 := hb4.cell 0
  have q1 := hb4.cell 1
  have q2 := hb4.cell 2
  have q3 := hb4.cell 3
  unfold put4 put3 at q0 q1 q2 q3
  go_wp2_with fail
  refine bodyPost_ret (v := .tuple #[.agg #[.slice A1 1 c1, .int .i64 (2 * n), .slice D1 n e1, .slice H1 n k1], .int .i64 0]) (by simp [results, Try.results23, go_sem, q0, q1, q2, q3]) rfl ?_
  rw [HE.out]
  exact ⟨_, rfl, braiding_put HB.out hb06 l7 (by omega), put4_below hb06 (by omega)⟩
set_option maxHeartbeats 8000000 in
set_option maxRecDepth 100000 in
theorem law_StandardBraiding {w : World} (a0 : Int) (wa0 : i64ok a0) (a1 : Int) (wa1 : i64ok a1) : Calls Try.prog 6 #[.int .i64 a0, .int .i64 a1] w (Re w (.bool true)) := by
  obtain ⟨y0, hy0⟩ : ∃ y : braiding_T, sbR a0 a1 = y := ⟨_, rfl⟩
  have HY0 := hide hy0
  clear hy0
  obtain ⟨y1, hy1⟩ : ∃ y : Int, sbK a0 a1 = y := ⟨_, rfl⟩
  have HY1 := hide hy1
  clear hy1
  have SY0 : braiding_tot y0 ≤ 1048576 := by rw [← HY0.out]; exact sbR_tot a0 a1
  have SY := braiding_sh SY0
  have SY2 := braiding_sumle y0
  go_enter Try.func6, Try.ntmps6
  go_wp2_with fail
  have kw := Below.refl w.heap.size w
  have hcl := (specSB_c w a0 wa0 a1 wa1)
  rw [HY0.out, HY1.out] at hcl
  have HCL := hide hcl
  clear hcl
  refine HCL.out.mono ?_
  rintro e t1 ⟨u, rfl, he, hb⟩
  clear HCL
  obtain ⟨Aw, nw, cw, zw, Dw, mw, ew, Hw, lw, gw, rfl, hf⟩ := braiding_form (braiding_rd he)
  clear hf
  replace kw := kw.trans (hb.mono kw.size)
  clear hb
  have Kt1 := kw.size
  have Zt1 := Nat.le_refl t1.heap.size
  have Rw := braiding_rd he
  clear he
  obtain ⟨Xw, hXw⟩ : ∃ X, t1.heap.size = X := ⟨_, rfl⟩
  go_wp2_with fail
  obtain ⟨t2, ht2⟩ : ∃ w5, t1.alloc (.cells #[.slice Aw nw cw, .int .i64 zw, .slice Dw mw ew, .slice Hw lw gw] 37) = w5 := ⟨_, rfl⟩
  have hb : Below t1.heap.size t1 t2 := by rw [← ht2]; exact (Below.refl _ _).alloc (Nat.le_refl _) _
  have bw : Blk t2 Xw 37 #[.slice Aw nw cw, .int .i64 zw, .slice Dw mw ew, .slice Hw lw gw] := by rw [← ht2]; exact Blk.new' _ _ _ _ hXw
  rw [ht2]
  clear ht2
  replace kw := kw.trans (hb.mono kw.size)
  replace Rw := braiding_keep Rw (hb.mono Zt1) (Nat.le_refl _)
  replace Zt1 := Nat.le_trans Zt1 hb.size
  clear hb
  have Ot1t2 := Zt1
  have Gbwt2 := bw.lt
  have Kt2 := kw.size
  have Zt2 := Nat.le_refl t2.heap.size
  have hcl := (implSB_c t2 a0 wa0 a1 wa1)
  rw [HY0.out, HY1.out] at hcl
  have HCL := hide hcl
  clear hcl
  refine HCL.out.mono ?_
  rintro e t3 ⟨u, rfl, he, hb⟩
  clear HCL
  obtain ⟨Ag, ng, cg, zg, Dg, mg, eg, Hg, lg, gg, rfl, hf⟩ := braiding_form (braiding_rd he)
  clear hf
  replace kw := kw.trans (hb.mono kw.size)
  replace bw := bw.all hb
  replace Rw := braiding_keep Rw (hb.mono Zt1) (Nat.le_refl _)
  replace Zt1 := Nat.le_trans Zt1 hb.size
  replace Zt2 := Nat.le_trans Zt2 hb.size
  clear hb
  have Eg := he
  clear he
  have Ot1t3 := Zt1
  have Ot2t3 := Zt2
  have Gbwt3 := bw.lt
  have Kt3 := kw.size
  have Zt3 := Nat.le_refl t3.heap.size
  obtain ⟨Xg, hXg⟩ : ∃ X, t3.heap.size = X := ⟨_, rfl⟩
  have bwl2 : Xw < Xg := by have := bw.lt; omega
  have bwc0 := bw.cell 0
  have bwc1 := bw.cell 1
  have bwc2 := bw.cell 2
  have bwc3 := bw.cell 3
  have bwlt := bw.lt
  go_wp2_with fail
  clear bwc0 bwc1 bwc2 bwc3 bwlt
  clear bwl2
  obtain ⟨t4, ht4⟩ : ∃ w5, t3.alloc (.cells #[.slice Ag ng cg, .int .i64 zg, .slice Dg mg eg, .slice Hg lg gg] 37) = w5 := ⟨_, rfl⟩
  have hb : Below t3.heap.size t3 t4 := by rw [← ht4]; exact (Below.refl _ _).alloc (Nat.le_refl _) _
  have bg : Blk t4 Xg 37 #[.slice Ag ng cg, .int .i64 zg, .slice Dg mg eg, .slice Hg lg gg] := by rw [← ht4]; exact Blk.new' _ _ _ _ hXg
  rw [ht4]
  clear ht4
  replace kw := kw.trans (hb.mono kw.size)
  replace bw := bw.all hb
  replace Eg := braiding_below Eg hb
  replace Rw := braiding_keep Rw (hb.mono Zt1) (Nat.le_refl _)
  replace Zt1 := Nat.le_trans Zt1 hb.size
  replace Zt2 := Nat.le_trans Zt2 hb.size
  replace Zt3 := Nat.le_trans Zt3 hb.size
  clear hb
  have Ot1t4 := Zt1
  have Ot2t4 := Zt2
  have Ot3t4 := Zt3
  have Gbwt4 := bw.lt
  have Gbgt4 := bg.lt
  have Kt4 := kw.size
  have Zt4 := Nat.le_refl t4.heap.size
  refine (braiding_eq _ _ _ y0 y0 (braiding_rd Eg) (braiding_keep Rw (Below.refl _ _) Zt1) SY).mono ?_
  rintro e t5 ⟨rfl, hb⟩
  simp only [beq_self_eq_true]
  replace kw := kw.trans (hb.mono kw.size)
  replace bw := bw.all hb
  replace bg := bg.all hb
  replace Eg := braiding_below Eg hb
  replace Rw := braiding_keep Rw (hb.mono Zt1) (Nat.le_refl _)
  replace Zt1 := Nat.le_trans Zt1 hb.size
  replace Zt2 := Nat.le_trans Zt2 hb.size
  replace Zt3 := Nat.le_trans Zt3 hb.size
  replace Zt4 := Nat.le_trans Zt4 hb.size
  clear hb
  have bwc0 := bw.cell 0
  have bwc1 := bw.cell 1
  have bwc2 := bw.cell 2
  have bwc3 := bw.cell 3
  have bgc0 := bg.cell 0
  have bgc1 := bg.cell 1
  have bgc2 := bg.cell 2
  have bgc3 := bg.cell 3
  have bwlt := bw.lt
  have bglt := bg.lt
  go_wp2_with fail
  clear bwc0 bwc1 bwc2 bwc3 bgc0 bgc1 bgc2 bgc3 bwlt bglt
  refine (braiding_mark _ _ y0 _ 1 Eg (by omega) (by omega) (by omega)).mono ?_
  rintro e t6 ⟨rfl, he, hw⟩
  have hbb := hw.below (B := t2.heap.size) (fun b hf => hf.1) Zt2
  replace kw := kw.trans (hbb.mono Kt2)
  replace bw := hw.blk bw (fun hf => by have a1 := hf.1; have a2 := hf.2; omega)
  replace bg := hw.blk bg (fun hf => by have a1 := hf.1; have a2 := hf.2; omega)
  replace Rw := braiding_keep Rw (hbb.mono (by omega)) (Nat.le_refl _)
  replace Zt1 := Nat.le_trans Zt1 hw.size
  replace Zt2 := Nat.le_trans Zt2 hw.size
  replace Zt3 := Nat.le_trans Zt3 hw.size
  replace Zt4 := Nat.le_trans Zt4 hw.size
  replace Eg := he
  clear hbb hw he
  obtain ⟨mm, hmm, hmma, hmmb⟩ : ∃ z : Int, 1 + (braiding_sum y0 : Int) = z ∧ 0 ≤ z ∧ z ≤ 4000000 := ⟨_, rfl, by omega, by omega⟩
  rw [hmm]
  have Hmm := hide hmm
  clear hmm
  have bwc0 := bw.cell 0
  have bwc1 := bw.cell 1
  have bwc2 := bw.cell 2
  have bwc3 := bw.cell 3
  have bgc0 := bg.cell 0
  have bgc1 := bg.cell 1
  have bgc2 := bg.cell 2
  have bgc3 := bg.cell 3
  have bwlt := bw.lt
  have bglt := bg.lt
  go_wp2_with fail
  clear bwc0 bwc1 bwc2 bwc3 bgc0 bgc1 bgc2 bgc3 bwlt bglt
  refine (braiding_heldc _ _ _ 1 (braiding_rd Eg) (braiding_shmk SY) (by omega) (by omega)).mono ?_
  rw [braiding_heldmk1, Hmm.out]
  rintro e t7 ⟨rfl, hb⟩
  replace kw := kw.trans (hb.mono kw.size)
  replace bw := bw.all hb
  replace bg := bg.all hb
  replace Eg := braiding_below Eg hb
  replace Rw := braiding_keep Rw (hb.mono Zt1) (Nat.le_refl _)
  replace Zt1 := Nat.le_trans Zt1 hb.size
  replace Zt2 := Nat.le_trans Zt2 hb.size
  replace Zt3 := Nat.le_trans Zt3 hb.size
  replace Zt4 := Nat.le_trans Zt4 hb.size
  clear hb
  have bwc0 := bw.cell 0
  have bwc1 := bw.cell 1
  have bwc2 := bw.cell 2
  have bwc3 := bw.cell 3
  have bgc0 := bg.cell 0
  have bgc1 := bg.cell 1
  have bgc2 := bg.cell 2
  have bgc3 := bg.cell 3
  have bwlt := bw.lt
  have bglt := bg.lt
  go_wp2_with fail
  clear bwc0 bwc1 bwc2 bwc3 bgc0 bgc1 bgc2 bgc3 bwlt bglt
  have hcl := (implSB_c t7 a0 wa0 a1 wa1)
  rw [HY0.out, HY1.out] at hcl
  have HCL := hide hcl
  clear hcl
  refine HCL.out.mono ?_
  rintro e t8 ⟨u, rfl, he, hb⟩
  clear HCL
  obtain ⟨Ah, nh, ch, zh, Dh, mh, eh, Hh, lh, gh, rfl, hf⟩ := braiding_form (braiding_rd he)
  clear hf
  replace kw := kw.trans (hb.mono kw.size)
  replace bw := bw.all hb
  replace bg := bg.all hb
  replace Eg := braiding_below Eg hb
  replace Rw := braiding_keep Rw (hb.mono Zt1) (Nat.le_refl _)
  replace Zt1 := Nat.le_trans Zt1 hb.size
  replace Zt2 := Nat.le_trans Zt2 hb.size
  replace Zt3 := Nat.le_trans Zt3 hb.size
  replace Zt4 := Nat.le_trans Zt4 hb.size
  clear hb
  have Eh := he
  clear he
  obtain ⟨Xh, hXh⟩ : ∃ X, t8.heap.size = X := ⟨_, rfl⟩
  have Ot1t8 := Zt1
  have Ot2t8 := Zt2
  have Ot3t8 := Zt3
  have Ot4t8 := Zt4
  have Gbwt8 := bw.lt
  have Gbgt8 := bg.lt
  have Kt8 := kw.size
  have Zt8 := Nat.le_refl t8.heap.size
  have bwl2 : Xw < Xh := by have := bw.lt; omega
  have bgl2 : Xg < Xh := by have := bg.lt; omega
  have bwc0 := bw.cell 0
  have bwc1 := bw.cell 1
  have bwc2 := bw.cell 2
  have bwc3 := bw.cell 3
  have bgc0 := bg.cell 0
  have bgc1 := bg.cell 1
  have bgc2 := bg.cell 2
  have bgc3 := bg.cell 3
  have bwlt := bw.lt
  have bglt := bg.lt
  go_wp2_with fail
  clear bwc0 bwc1 bwc2 bwc3 bgc0 bgc1 bgc2 bgc3 bwlt bglt
  clear bwl2 bgl2
  obtain ⟨t9, ht9⟩ : ∃ w5, t8.alloc (.cells #[.slice Ah nh ch, .int .i64 zh, .slice Dh mh eh, .slice Hh lh gh] 37) = w5 := ⟨_, rfl⟩
  have hb : Below t8.heap.size t8 t9 := by rw [← ht9]; exact (Below.refl _ _).alloc (Nat.le_refl _) _
  have bh : Blk t9 Xh 37 #[.slice Ah nh ch, .int .i64 zh, .slice Dh mh eh, .slice Hh lh gh] := by rw [← ht9]; exact Blk.new' _ _ _ _ hXh
  rw [ht9]
  clear ht9
  replace kw := kw.trans (hb.mono kw.size)
  replace bw := bw.all hb
  replace bg := bg.all hb
  replace Eg := braiding_below Eg hb
  replace Eh := braiding_below Eh hb
  replace Rw := braiding_keep Rw (hb.mono Zt1) (Nat.le_refl _)
  replace Zt1 := Nat.le_trans Zt1 hb.size
  replace Zt2 := Nat.le_trans Zt2 hb.size
  replace Zt3 := Nat.le_trans Zt3 hb.size
  replace Zt4 := Nat.le_trans Zt4 hb.size
  replace Zt8 := Nat.le_trans Zt8 hb.size
  clear hb
  have Ot1t9 := Zt1
  have Ot2t9 := Zt2
  have Ot3t9 := Zt3
  have Ot4t9 := Zt4
  have Ot8t9 := Zt8
  have Gbwt9 := bw.lt
  have Gbgt9 := bg.lt
  have Gbht9 := bh.lt
  have Kt9 := kw.size
  have Zt9 := Nat.le_refl t9.heap.size
  refine (braiding_eq _ _ _ y0 y0 (braiding_rd Eh) (braiding_keep Rw (Below.refl _ _) Zt1) SY).mono ?_
  rintro e t10 ⟨rfl, hb⟩
  simp only [beq_self_eq_true]
  replace kw := kw.trans (hb.mono kw.size)
  replace bw := bw.all hb
  replace bg := bg.all hb
  replace bh := bh.all hb
  replace Eg := braiding_below Eg hb
  replace Eh := braiding_below Eh hb
  replace Rw := braiding_keep Rw (hb.mono Zt1) (Nat.le_refl _)
  replace Zt1 := Nat.le_trans Zt1 hb.size
  replace Zt2 := Nat.le_trans Zt2 hb.size
  replace Zt3 := Nat.le_trans Zt3 hb.size
  replace Zt4 := Nat.le_trans Zt4 hb.size
  replace Zt8 := Nat.le_trans Zt8 hb.size
  replace Zt9 := Nat.le_trans Zt9 hb.size
  clear hb
  have bwc0 := bw.cell 0
  have bwc1 := bw.cell 1
  have bwc2 := bw.cell 2
  have bwc3 := bw.cell 3
  have bgc0 := bg.cell 0
  have bgc1 := bg.cell 1
  have bgc2 := bg.cell 2
  have bgc3 := bg.cell 3
  have bhc0 := bh.cell 0
  have bhc1 := bh.cell 1
  have bhc2 := bh.cell 2
  have bhc3 := bh.cell 3
  have bwlt := bw.lt
  have bglt := bg.lt
  have bhlt := bh.lt
  go_wp2_with fail
  clear bwc0 bwc1 bwc2 bwc3 bgc0 bgc1 bgc2 bgc3 bhc0 bhc1 bhc2 bhc3 bwlt bglt bhlt
  refine (braiding_heldc _ _ _ 1 (braiding_rd Eg) (braiding_shmk SY) (by omega) (by omega)).mono ?_
  rw [braiding_heldmk1, Hmm.out]
  rintro e t11 ⟨rfl, hb⟩
  replace kw := kw.trans (hb.mono kw.size)
  replace bw := bw.all hb
  replace bg := bg.all hb
  replace bh := bh.all hb
  replace Eg := braiding_below Eg hb
  replace Eh := braiding_below Eh hb
  replace Rw := braiding_keep Rw (hb.mono Zt1) (Nat.le_refl _)
  replace Zt1 := Nat.le_trans Zt1 hb.size
  replace Zt2 := Nat.le_trans Zt2 hb.size
  replace Zt3 := Nat.le_trans Zt3 hb.size
  replace Zt4 := Nat.le_trans Zt4 hb.size
  replace Zt8 := Nat.le_trans Zt8 hb.size
  replace Zt9 := Nat.le_trans Zt9 hb.size
  clear hb
  go_wp2_with fail
  go_ret
  exact ⟨rfl, kw⟩
end Go.Proofs.Ythjlpgaoemdmkaa
