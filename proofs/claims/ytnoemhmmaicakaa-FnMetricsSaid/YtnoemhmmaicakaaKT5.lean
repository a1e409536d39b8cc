
/- The draws of FnMetrics: DrawAddElements, DrawPairElements, DrawCountMetrics. -/
import Derived.Test.YtnoemhmmaicakaaDva
import Derived.Test.YtnoemhmmaicakaaD5a
import Derived.WalkLawsBesides
namespace Go.Proofs.Ytnoemhmmaicakaa
open Go Go.RowKit
set_option linter.unusedSimpArgs false
set_option linter.unusedVariables false
set_option maxRecDepth 100000
set_option maxHeartbeats 2000000 in
theorem l01Count_m1 (w0 w : World) (B S : Nat) (A : Option Addr) (n c lo : Nat) (bs : List Int) (hb : SlB w0 B A n c bs) (hn : n ≤ 1048576) (hs : Src w0 B S A n c lo w) (m : Int) (hm0 : -1 ≤ m) (hm : m ≤ 1000000000) :
    Calls Try.prog 94 #[.pointer (some ⟨S, 0, none⟩), .int .i64 m] w (Drw w0 B S A n c lo w (fun x => i64ok x)) := by
  have v1 : IntKind.i64.wrap (m + 1) = m + 1 := wr64 _ ⟨by omega, by omega⟩
  go_enter Try.func94, Try.ntmps94
  go_wp2_with fail
  refine (l01Next_any w0 _ B S A n c lo bs hb hn hs 14 ⟨by omega, by omega⟩).mono ?_
  rintro e w1 ⟨x, rfl, ⟨x0, -, -⟩, hs1, hg1⟩
  by_cases hx : x = 0
  · subst hx
    go_wp2_with fail
    have hs2 : Src w0 B S A n c lo (w1.alloc (.cells #[.int .i64 (-1), .int .i64 (m + 1), .int .i64 1099511627776, .int .i64 (-4611686018427387904)] 2)) := hs1.alloc _
    refine (l01Pick_any w0 _ B S A n c lo bs hb hn hs2 w1.heap.size 2 4 [-1, m + 1, 1099511627776, -4611686018427387904] (Blk.new _ _ _) (by have := hs1.lt; omega) rfl (by omega) (by omega)).mono ?_
    rintro e w3 ⟨y, rfl, hy, hs3, hg3⟩
    go_wp2_with fail
    go_ret
    exact ⟨y, rfl, by simp at hy; rcases hy with rfl | rfl | rfl | rfl <;> exact ⟨by omega, by omega⟩, hs3, hg1.trans ((World.grownBy_alloc _ _ _).trans hg3)⟩
  · go_wp2_with fail
    refine (l01Next_any w0 _ B S A n c lo bs hb hn hs1 (m + 1) ⟨by omega, by omega⟩).mono ?_
    rintro e w3 ⟨y, rfl, ⟨y0, -, y2⟩, hs3, hg3⟩
    go_wp2_with fail
    go_ret
    exact ⟨y, rfl, ⟨by omega, by omega⟩, hs3, hg1.trans hg3⟩
theorem l10Number_any (w0 w : World) (B S : Nat) (A : Option Addr) (n c lo : Nat) (bs : List Int) (hb : SlB w0 B A n c bs) (hn : n ≤ 1048576) (hs : Src w0 B S A n c lo w) (A1 : Option Addr) (n1 c1 : Nat) (q : Int) (A2 : Option Addr) (n2 c2 : Nat) (h2 : n2 ≤ 64) :
    Calls Try.prog 76 #[.pointer (some ⟨S, 0, none⟩), .agg #[.slice A1 n1 c1, .int .i64 q, .slice A2 n2 c2]] w (Drw w0 B S A n c lo w (fun x => i64ok x)) := by
  have v1 : IntKind.i64.wrap ((n2 : Int) - 1) = (n2 : Int) - 1 := wr64 _ ⟨by omega, by omega⟩
  go_enter Try.func76, Try.ntmps76
  go_wp2_with fail
  refine (l01Count_m1 w0 _ B S A n c lo bs hb hn (hs.alloc _) ((n2 : Int) - 1) (by omega) (by omega)).mono ?_
  rintro e w1 ⟨x, rfl, hx, s1, g1⟩
  go_wp2_with fail
  go_ret
  exact ⟨x, rfl, hx, s1, (World.grownBy_alloc _ _ _).trans g1⟩
/-- It returned a metric that can be read and two numbers. -/
def DAd (w : World) (e : Ending) (w' : World) : Prop := ∃ A1 c1 A2 c2 os q vs x y, e = .returned (.tuple #[.agg #[.slice A1 (List.length os) c1, .int .i64 q, .slice A2 (List.length vs) c2], .int .i64 x, .int .i64 y]) ∧ GenM os q vs ∧ i64ok x ∧ i64ok y ∧ Sl w' w'.heap.size A1 os.length c1 os ∧ Sl w' w'.heap.size A2 vs.length c2 vs ∧ Below w.heap.size w w' ∧ LoB w.heap.size A1 os.length ∧ LoB w.heap.size A2 vs.length
set_option maxHeartbeats 8000000 in
theorem drawAdd_any (w : World) (A : Option Addr) (n c : Nat) (bs : List Int) (hb : SlB w w.heap.size A n c bs) (hn : n ≤ 4096) : Calls Try.prog 36 #[.slice A n c] w (DAd w) := by
  go_enter Try.func36, Try.ntmps36
  obtain ⟨W0, hW0⟩ : ∃ W0, w.alloc (.cells #[.slice none 0 0, .int .i64 0, .slice none 0 0] 26) = W0 := ⟨_, rfl⟩
  have bR : Blk W0 w.heap.size 26 #[.slice none 0 0, .int .i64 0, .slice none 0 0] := by rw [← hW0]; exact Blk.new _ _ _
  have k0 : Below w.heap.size w W0 := by rw [← hW0]; exact (by repeat (first | assumption | exact Below.refl _ _ | apply below_drewN | apply Below.drew | apply Below.alloc | apply Below.setCell | omega | (focus (simp; done)) | (focus (simp; omega))))
  have z0 : w.heap.size < W0.heap.size := by rw [← hW0]; simp
  have hb0 : SlB W0 W0.heap.size A n c bs := ⟨hb.len, hb.cap, hb.rng, fun h => by
    obtain ⟨b, off, e, hlt, hc⟩ := hb.at_ h
    exact ⟨b, off, e, by omega, fun k hk => (k0.cell (p := ⟨b, off + k, none⟩) hlt).trans (hc k hk)⟩⟩
  go_wp2_with fail
  clear hW0
  refine (l01From_any W0 A n c bs hb0 hn).mono ?_
  rintro e w1 ⟨S, rfl, s1⟩
  have bR1 := bR.below s1.below z0
  have z1 := s1.below.size
  have hSz := s1.hS
  go_wp2_with fail
  refine (l10Spoil_any W0 w1 W0.heap.size S A n c 0 bs hb0 (by omega) s1 z1).mono ?_
  rintro e w2 ⟨A1, c1, A2, c2, os, q, vs, rfl, hG, sl1, sl2, ⟨lb1, lb2⟩, s2, g2⟩
  replace bR1 := bR1.grown g2 (by simp; omega)
  have lv := hG.v
  have hS2 := s2.lt
  have z2 := g2.size
  obtain ⟨M, hMe⟩ : ∃ M, w2.heap.size = M := ⟨_, rfl⟩
  have bM : Blk (w2.alloc (.cells #[.slice A1 os.length c1, .int .i64 q, .slice A2 vs.length c2] 26)) M 26 #[.slice A1 os.length c1, .int .i64 q, .slice A2 vs.length c2] := Blk.new' _ _ _ _ hMe
  replace bR1 := bR1.alloc (.cells #[.slice A1 os.length c1, .int .i64 q, .slice A2 vs.length c2] 26)
  replace sl1 := sl1.alloc (.cells #[.slice A1 os.length c1, .int .i64 q, .slice A2 vs.length c2] 26)
  replace sl2 := sl2.alloc (.cells #[.slice A1 os.length c1, .int .i64 q, .slice A2 vs.length c2] 26)
  replace s2 := s2.alloc (.cells #[.slice A1 os.length c1, .int .i64 q, .slice A2 vs.length c2] 26)
  go_wp2_with fail
  obtain ⟨w3, hw3⟩ : ∃ w3, w2.alloc (.cells #[.slice A1 os.length c1, .int .i64 q, .slice A2 vs.length c2] 26) = w3 := ⟨_, rfl⟩
  rw [hw3] at bM bR1 sl1 sl2 s2 ⊢
  clear hw3
  have hMS : M ≠ S := by omega
  have hRM : w.heap.size ≠ M := by omega
  refine wp_region_ord [0, 1, 2, 4, 5, 3, 6, 7, 8, 9] 9 (fun w' => w'.cell? ⟨M, 0, none⟩ = some (.slice A1 os.length c1) ∧ w'.cell? ⟨M, 1, none⟩ = some (.int .i64 q) ∧ w'.cell? ⟨M, 2, none⟩ = some (.slice A2 vs.length c2)) (by kernel_rfl) (by kernel_rfl) (by kernel_rfl) (fun _ _ _ _ _ h => h) ⟨bM.cell 0, bM.cell 1, bM.cell 2⟩ ?_
  replace s2 := s2.drewN 1
  replace bM : Blk (w3.drewN 1) M 26 #[.slice A1 os.length c1, .int .i64 q, .slice A2 vs.length c2] := bM
  replace bR1 : Blk (w3.drewN 1) w.heap.size 26 #[.slice none 0 0, .int .i64 0, .slice none 0 0] := bR1
  replace sl1 : SlS (w3.drewN 1) S A1 os.length c1 os := ⟨sl1.sl.drewN 1, sl1.ne⟩
  replace sl2 : SlS (w3.drewN 1) S A2 vs.length c2 vs := ⟨sl2.sl.drewN 1, sl2.ne⟩
  have hdr : w3.drew = w3.drewN 1 := rfl
  rw [hdr]
  obtain ⟨w4, hw4⟩ : ∃ w4, w3.drewN 1 = w4 := ⟨_, rfl⟩
  rw [hw4] at bM bR1 sl1 sl2 s2 ⊢
  clear hw4 hdr
  repeat (apply ord_take rfl (by rfl) (by rfl); (focus (intro w hSw; (try dsimp only at hSw); go_simp; (try with_reducible rfl))); (try simp only [Act.put, List.setIfInBounds_toArray, List.set_cons_zero, List.set_cons_succ]))
  refine ord_do rfl (by rfl) (by rfl) (fun K hK => ?_)
  go_simp
  refine (l10Number_any W0 _ _ S A n c 0 bs hb0 (by omega) s2 A1 os.length c1 q A2 vs.length c2 lv).mono ?_
  rintro e w5 ⟨x, rfl, hx, s5, g5⟩
  replace bM := bM.grown g5 (by simp; omega)
  replace bR1 := bR1.grown g5 (by simp; omega)
  replace sl1 := sl1.grown g5
  replace sl2 := sl2.grown g5
  refine hK.out _ _ (fun _ => ⟨bM.cell 0, bM.cell 1, bM.cell 2⟩) ?_
  (try simp only [Act.put, List.setIfInBounds_toArray, List.set_cons_zero, List.set_cons_succ])
  clear hK K
  clear g5 s2
  repeat (apply ord_take rfl (by rfl) (by rfl); (focus (intro w hSw; (try dsimp only at hSw); go_simp; (try with_reducible rfl))); (try simp only [Act.put, List.setIfInBounds_toArray, List.set_cons_zero, List.set_cons_succ]))
  refine ord_do rfl (by rfl) (by rfl) (fun K hK => ?_)
  go_simp
  refine (l10Number_any W0 _ _ S A n c 0 bs hb0 (by omega) s5 A1 os.length c1 q A2 vs.length c2 lv).mono ?_
  rintro e w6 ⟨y, rfl, hy, s6, g6⟩
  replace bM := bM.grown g6 (by simp; omega)
  replace bR1 := bR1.grown g6 (by simp; omega)
  replace sl1 := sl1.grown g6
  replace sl2 := sl2.grown g6
  refine hK.out _ _ (fun _ => ⟨bM.cell 0, bM.cell 1, bM.cell 2⟩) ?_
  (try simp only [Act.put, List.setIfInBounds_toArray, List.set_cons_zero, List.set_cons_succ])
  clear hK K
  clear g6 s5
  repeat (apply ord_take rfl (by rfl) (by rfl); (focus (intro w hSw; (try dsimp only at hSw); go_simp; (try with_reducible rfl))); (try simp only [Act.put, List.setIfInBounds_toArray, List.set_cons_zero, List.set_cons_succ]))
  have hres := bR1
  have r0 := hres.cell 0
  have r1 := hres.cell 1
  have r2 := hres.cell 2
  have f0 := hres.frozen 0
  have f1 := hres.frozen 1
  have f2 := hres.frozen 2
  refine ord_do rfl (by rfl) (by rfl) (fun K hK => ?_)
  go_simp
  have hb3 := put3_blk (x := .slice A1 (List.length os) c1) (y := .int .i64 q) (z := .slice A2 (List.length vs) c2) hres
  have bM3 := put3_far (x := .slice A1 (List.length os) c1) (y := .int .i64 q) (z := .slice A2 (List.length vs) c2) bM hRM.symm
  have q0 := hb3.cell 0
  have q1 := hb3.cell 1
  have q2 := hb3.cell 2
  have u0 := bM3.cell 0
  have u1 := bM3.cell 1
  have u2 := bM3.cell 2
  unfold put3 at q0 q1 q2 u0 u1 u2
  refine hK.out _ _ (fun _ => ⟨u0, u1, u2⟩) ?_
  (try simp only [Act.put, List.setIfInBounds_toArray, List.set_cons_zero, List.set_cons_succ])
  clear hK K
  repeat (apply ord_take rfl (by rfl) (by rfl); (focus (intro w hSw; (try dsimp only at hSw); go_simp; (try with_reducible rfl))); (try simp only [Act.put, List.setIfInBounds_toArray, List.set_cons_zero, List.set_cons_succ]))
  refine ord_do rfl (by rfl) (by rfl) (fun K hK => ?_)
  go_simp
  refine hK.out _ _ (fun h => absurd h (by omega)) ?_
  (try simp only [Act.put, List.setIfInBounds_toArray, List.set_cons_zero, List.set_cons_succ])
  clear hK K
  refine ord_nil ?_
  clear u0 u1 u2
  go_wp2_with fail
  refine bodyPost_ret (v := .tuple #[.agg #[.slice A1 (List.length os) c1, .int .i64 q, .slice A2 (List.length vs) c2], .int .i64 x, .int .i64 y]) (by simp [results, Try.results36, go_sem, q0, q1, q2]) rfl ?_
  exact ⟨A1, c1, A2, c2, os, q, vs, x, y, rfl, hG, hx, hy, slS_out sl1 lb1 (by omega), slS_out sl2 lb2 (by omega), put3_below (k0.trans (s6.below.mono (by omega))) (Nat.le_refl _), lb1.less (by omega), lb2.less (by omega)⟩
set_option maxHeartbeats 4000000 in
theorem drawPair_any (w : World) (A : Option Addr) (n c : Nat) (bs : List Int) (hb : SlB w w.heap.size A n c bs) (hn : n ≤ 4096) : Calls Try.prog 6 #[.slice A n c] w (DAd w) := by
  go_enter Try.func6, Try.ntmps6
  obtain ⟨W0, hW0⟩ : ∃ W0, w.alloc (.cells #[.slice none 0 0, .int .i64 0, .slice none 0 0] 26) = W0 := ⟨_, rfl⟩
  have bR : Blk W0 w.heap.size 26 #[.slice none 0 0, .int .i64 0, .slice none 0 0] := by rw [← hW0]; exact Blk.new _ _ _
  have k0 : Below w.heap.size w W0 := by rw [← hW0]; exact (by repeat (first | assumption | exact Below.refl _ _ | apply below_drewN | apply Below.drew | apply Below.alloc | apply Below.setCell | omega | (focus (simp; done)) | (focus (simp; omega))))
  have z0 : w.heap.size < W0.heap.size := by rw [← hW0]; simp
  have hb0 : SlB W0 W0.heap.size A n c bs := ⟨hb.len, hb.cap, hb.rng, fun h => by
    obtain ⟨b, off, e, hlt, hc⟩ := hb.at_ h
    exact ⟨b, off, e, by omega, fun k hk => (k0.cell (p := ⟨b, off + k, none⟩) hlt).trans (hc k hk)⟩⟩
  go_wp2_with fail
  clear hW0
  refine (drawAdd_any W0 A n c bs hb0 hn).mono ?_
  rintro e w1 ⟨A1, c1, A2, c2, os, q, vs, x, y, rfl, hG, hx, hy, sl1, sl2, hb1, lb1, lb2⟩
  have bR1 := bR.all hb1
  obtain ⟨M, hMe⟩ : ∃ M, w1.heap.size = M := ⟨_, rfl⟩
  have bM : Blk (w1.alloc (.cells #[.slice A1 os.length c1, .int .i64 q, .slice A2 vs.length c2] 26)) M 26 #[.slice A1 os.length c1, .int .i64 q, .slice A2 vs.length c2] := Blk.new' _ _ _ _ hMe
  have hzM : w.heap.size < M := by have := hb1.size; omega
  have u0 := bM.cell 0
  have u1 := bM.cell 1
  have u2 := bM.cell 2
  have hres := bR1
  have r0 := hres.cell 0
  have r1 := hres.cell 1
  have r2 := hres.cell 2
  have f0 := hres.frozen 0
  have f1 := hres.frozen 1
  have f2 := hres.frozen 2
  have hb3 := (put3_blk (x := .slice A1 (List.length os) c1) (y := .int .i64 q) (z := .slice A2 (List.length vs) c2) hres).alloc (.cells #[.slice A1 os.length c1, .int .i64 q, .slice A2 vs.length c2] 26)
  have q0 := hb3.cell 0
  have q1 := hb3.cell 1
  have q2 := hb3.cell 2
  unfold put3 at q0 q1 q2
  have hsz : (put3 w1 w.heap.size (.slice A1 (List.length os) c1) (.int .i64 q) (.slice A2 (List.length vs) c2)).heap.size = w1.heap.size := by simp [put3, World.setCell]
  have hfin := (put3_below (x := .slice A1 (List.length os) c1) (y := .int .i64 q) (z := .slice A2 (List.length vs) c2) (k0.trans (hb1.mono k0.size)) (Nat.le_refl _)).alloc (by rw [hsz]; omega) (.cells #[.slice A1 os.length c1, .int .i64 q, .slice A2 vs.length c2] 26)
  clear hsz
  have hbw : ∀ wz : World, Below wz.heap.size wz (wz.alloc (.cells #[.slice A1 os.length c1, .int .i64 q, .slice A2 vs.length c2] 26)) := fun wz => (Below.refl _ _).alloc (Nat.le_refl _) _
  have t1 := slS_out (x := .slice A1 (List.length os) c1) (y := .int .i64 q) (z := .slice A2 (List.length vs) c2) (⟨sl1, fun b off sp e hn => by have := lb1 b off sp e hn; omega⟩ : SlS w1 w.heap.size A1 os.length c1 os) lb1 z0
  have t2 := slS_out (x := .slice A1 (List.length os) c1) (y := .int .i64 q) (z := .slice A2 (List.length vs) c2) (⟨sl2, fun b off sp e hn => by have := lb2 b off sp e hn; omega⟩ : SlS w1 w.heap.size A2 vs.length c2 vs) lb2 z0
  replace t1 := (t1.below (hbw _)).more (hbw _).size
  replace t2 := (t2.below (hbw _)).more (hbw _).size
  have HT1 := hide t1
  have HT2 := hide t2
  have HF := hide hfin
  clear t1 t2 hfin hbw
  go_wp2_with fail
  refine bodyPost_ret (v := .tuple #[.agg #[.slice A1 (List.length os) c1, .int .i64 q, .slice A2 (List.length vs) c2], .int .i64 x, .int .i64 y]) (by simp [results, Try.results6, go_sem, q0, q1, q2]) rfl ?_
  exact ⟨A1, c1, A2, c2, os, q, vs, x, y, rfl, hG, hx, hy, HT1.out, HT2.out, HF.out, lb1.less (by omega), lb2.less (by omega)⟩
/-- It returned orders that can be read and a modulus. -/
def DKm (w : World) (e : Ending) (w' : World) : Prop := ∃ A1 c1 os q, e = .returned (.tuple #[.slice A1 (List.length os) c1, .int .i64 q]) ∧ os.length ≤ 8 ∧ i64ok q ∧ Sl w' w'.heap.size A1 os.length c1 os ∧ Below w.heap.size w w'
theorem pick_memq {ys : List Int} {x lo hi : Int} (hx : x ∈ ys) (h : (ys.all fun y => decide (lo ≤ y) && decide (y ≤ hi)) = true) : lo ≤ x ∧ x ≤ hi := by
  have := List.all_eq_true.1 h x hx
  simpa using this
theorem src_neq {w0 w : World} {B S C : Nat} {A : Option Addr} {n c lo : Nat} {v : Value} {xs : List Int} (h : Src w0 B S A n c lo w) (hO : Ow w C v xs) : ∀ b, v.ownBlock = some b → some S ≠ some b := h.ne hO
set_option maxHeartbeats 4000000 in
theorem drawKm_any (w : World) (A : Option Addr) (n c : Nat) (bs : List Int) (hb : SlB w w.heap.size A n c bs) (hn : n ≤ 4096) : Calls Try.prog 11 #[.slice A n c] w (DKm w) := by
  go_enter Try.func11, Try.ntmps11
  go_wp2_with fail
  refine (l01From_any w A n c bs hb hn).mono ?_
  rintro e w1 ⟨S, rfl, hs1⟩
  have hz1 := hs1.below.size
  go_wp2_with fail
  refine (orders2_any w w1 _ S A n c 0 bs hb (by omega) hs1 (by omega) 16 (by omega) (by omega)).mono ?_
  rintro e w2 ⟨v, os, rfl, hO, ⟨hR, hL, -⟩, hs2, hg2⟩
  have hz2 := hg2.size
  replace hO := hO.less hz1
  obtain ⟨Ao, co, rfl⟩ := hO.val
  go_wp2_with fail
  refine (l01Next_any w _ _ S A n c 0 bs hb (by omega) hs2 16 ⟨by omega, by omega⟩).mono ?_
  rintro e wf ⟨y, rfl, ⟨y0, y1, -⟩, hs3, hg3⟩
  have hO3 := hO.far hg3 (src_neq hs2 hO)
  clear hs1 hs2 hO
  by_cases h0 : y = 0
  · subst h0
    go_wp2_with fail
    refine (l01Pick_any w _ w.heap.size S A n c 0 bs hb (by omega) (hs3.alloc _) wf.heap.size 2 3 [1, 17, 16] (Blk.new _ _ _) (by have := hs3.lt; omega) rfl (by omega) (by omega)).mono ?_
    rintro e w5 ⟨t, rfl, ht, hs5, hg5⟩
    have ht2 : 0 ≤ t ∧ t ≤ 17 := pick_memq ht (by decide)
    clear ht
    have hO5 := hO3.far ((World.grownBy_alloc wf (.cells #[.int .i64 1, .int .i64 17, .int .i64 16] 2) (some S)).trans hg5) (src_neq hs3 hO3)
    have hJ := hO5.alloc (.cells #[.int .i64 t] 2)
    have hsrc := hs5.alloc (.cells #[.int .i64 t] 2)
    have hz5 := hs5.below.size
    go_wp2_with (at_builtin; refine list_push _ rfl _ _ rfl w.heap.size _ os rfl hJ t _ _ rfl (Blk.new _ _ _) (by omega) (by simp; omega) (by simp) ?_; intro g2 cap wf hP6)
    have hD : Src w w.heap.size S A n c 0 wf ∧ Ow wf w.heap.size (.slice (some ⟨g2, 0, none⟩) (os.length + 1) cap) (os ++ [t]) ∧ (∀ x ∈ os ++ [t], i64ok x) ∧ (os ++ [t]).length ≤ 8 := ⟨hsrc.push hP6 hJ (Nat.le_refl _) (by simp; omega), hP6.own, fun x hx => by
        rcases List.mem_append.1 hx with h | h
        · have := hR x h; exact ⟨by omega, by omega⟩
        · rw [List.mem_singleton.1 h]; exact ⟨by omega, by omega⟩, by simp; omega⟩
    have hl : (os ++ [t]).length = os.length + 1 := by simp
    rw [← hl] at hD ⊢
    go_wp2_with fail
    refine (l01Pick_any w _ w.heap.size S A n c 0 bs hb (by omega) (hD.1.alloc _) wf.heap.size 2 12 [2, 4, 8, 3, 9, 6, 12, 16, 24, 13, 0, 55440] (Blk.new _ _ _) (by have := hD.1.lt; omega) rfl (by omega) (by omega)).mono ?_
    rintro e w9 ⟨p, rfl, hp, hs9, hg9⟩
    have hp2 : 0 ≤ p ∧ p ≤ 55440 := pick_memq hp (by decide)
    clear hp
    have hO9 := hD.2.1.far ((World.grownBy_alloc wf (.cells #[.int .i64 2, .int .i64 4, .int .i64 8, .int .i64 3, .int .i64 9, .int .i64 6, .int .i64 12, .int .i64 16, .int .i64 24, .int .i64 13, .int .i64 0, .int .i64 55440] 2) (some S)).trans hg9) (src_neq hD.1 hD.2.1)
    obtain ⟨A9, c9, ev, hSl⟩ := hO9.sl hD.2.2.1
    injection ev with e1 e2 e3
    subst e1 e3
    go_wp2_with fail
    refine bodyPost_ret (v := .tuple #[.slice (some ⟨g2, 0, none⟩) (os ++ [t]).length cap, .int .i64 p]) (by simp [results, Try.results11, go_sem]) rfl ?_
    exact ⟨_, _, _, p, by first | rfl | (rw [e2]; rfl) | (simp; done), hD.2.2.2, ⟨by omega, by omega⟩, hSl, hs9.below⟩
  · have hD : Src w w.heap.size S A n c 0 wf ∧ Ow wf w.heap.size (.slice Ao os.length co) os ∧ (∀ x ∈ os, i64ok x) ∧ os.length ≤ 8 := ⟨hs3, hO3, fun x hx => by have := hR x hx; exact ⟨by omega, by omega⟩, by omega⟩
    go_wp2_with fail
    refine (l01Pick_any w _ w.heap.size S A n c 0 bs hb (by omega) (hD.1.alloc _) wf.heap.size 2 12 [2, 4, 8, 3, 9, 6, 12, 16, 24, 13, 0, 55440] (Blk.new _ _ _) (by have := hD.1.lt; omega) rfl (by omega) (by omega)).mono ?_
    rintro e w9 ⟨p, rfl, hp, hs9, hg9⟩
    have hp2 : 0 ≤ p ∧ p ≤ 55440 := pick_memq hp (by decide)
    clear hp
    have hO9 := hD.2.1.far ((World.grownBy_alloc wf (.cells #[.int .i64 2, .int .i64 4, .int .i64 8, .int .i64 3, .int .i64 9, .int .i64 6, .int .i64 12, .int .i64 16, .int .i64 24, .int .i64 13, .int .i64 0, .int .i64 55440] 2) (some S)).trans hg9) (src_neq hD.1 hD.2.1)
    obtain ⟨A9, c9, ev, hSl⟩ := hO9.sl hD.2.2.1
    injection ev with e1 e2 e3
    subst e1 e3
    go_wp2_with fail
    refine bodyPost_ret (v := .tuple #[.slice Ao os.length co, .int .i64 p]) (by simp [results, Try.results11, go_sem]) rfl ?_
    exact ⟨_, _, _, p, by first | rfl | (rw [e2]; rfl) | (simp; done), hD.2.2.2, ⟨by omega, by omega⟩, hSl, hs9.below⟩
end Go.Proofs.Ytnoemhmmaicakaa
