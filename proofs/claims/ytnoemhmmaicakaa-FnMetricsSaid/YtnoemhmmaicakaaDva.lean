
/- Draws of a law's arguments: DrawMetricGauss, DrawSumOfMetrics. DrawSumOfMetrics. A dice: roll and below. -/
import Derived.Test.YtnoemhmmaicakaaDta
import Derived.WalkLawsBesides
import Derived.Deep.DeepCutAuto
import Derived.Test.YtnoemhmmaicakaaDAa
namespace Go.Proofs.Ytnoemhmmaicakaa
open Go Go.RowKit Grp
set_option linter.unusedSimpArgs false
set_option linter.unusedVariables false

/-- What a draw made: the metric's slices read where they are, and stay where only the result's slot R is stored to. -/
theorem slS_out {w : World} {S R : Nat} {A : Option Addr} {n c : Nat} {xs : List Int} {x y z : Value} (h : SlS w S A n c xs) {L : Nat} (hl : LoB L A n) (hR : R < L) : Sl (put3 w R x y z) (put3 w R x y z).heap.size A n c xs := by
  refine ⟨h.sl.len, h.sl.cap, h.sl.rng, fun hn => ?_, h.sl.nil_⟩
  obtain ⟨b, off, e, hb, hc⟩ := h.sl.at_ hn
  have hlb := hl b off none e hn
  refine ⟨b, off, e, by rw [put3_size]; exact hb, fun k hk => ?_⟩
  rw [← hc k hk]
  have hne : b ≠ R := by omega
  unfold World.cell?
  have : (put3 w R x y z).heap[b]? = w.heap[b]? := by
    unfold put3
    rw [Below.heap_setCell _ _ _ _ hne, Below.heap_setCell _ _ _ _ hne, Below.heap_setCell _ _ _ _ hne]
  rw [this]
/-- It returned a metric and a number, that it made. -/
def DMi (w : World) (e : Ending) (w' : World) : Prop := ∃ A1 c1 A2 c2 os q vs k, e = .returned (.tuple #[.agg #[.slice A1 (List.length os) c1, .int .i64 q, .slice A2 (List.length vs) c2], .int .i64 k]) ∧ GenM os q vs ∧ i64ok k ∧ Sl w' w'.heap.size A1 os.length c1 os ∧ Sl w' w'.heap.size A2 vs.length c2 vs ∧ Below w.heap.size w w'
set_option maxRecDepth 100000 in
set_option maxHeartbeats 4000000 in
theorem drawGauss_any (w : World) (A : Option Addr) (n c : Nat) (bs : List Int) (hb : SlB w w.heap.size A n c bs) (hn : n ≤ 4096) : Calls Try.prog 24 #[.slice A n c] w (DMi w) := by
  go_enter Try.func24, Try.ntmps24
  obtain ⟨W0, hW0⟩ : ∃ W0, w.alloc (.cells #[.slice none 0 0, .int .i64 0, .slice none 0 0] 26) = W0 := ⟨_, rfl⟩
  have bR : Blk W0 w.heap.size 26 #[.slice none 0 0, .int .i64 0, .slice none 0 0] := by rw [← hW0]; exact Blk.new _ _ _
  have k0 : Below w.heap.size w W0 := by rw [← hW0]; exact (by repeat (first | assumption | exact Below.refl _ _ | apply below_drewN | apply Below.drew | apply Below.alloc | apply Below.setCell | omega | (focus (simp; done)) | (focus (simp; omega))))
  have z0 : w.heap.size < W0.heap.size := by rw [← hW0]; simp
  have hb0 : SlB W0 W0.heap.size A n c bs := ⟨hb.len, hb.cap, hb.rng, fun h => by
    obtain ⟨b, off, e, hlt, hc⟩ := hb.at_ h
    exact ⟨b, off, e, by omega, fun k hk => (k0.cell (p := ⟨b, off + k, none⟩) hlt).trans (hc k hk)⟩⟩
  go_wp2_with fail
  clear hW0
  refine (l01From_any W0 A n c bs hb0 hn).mono ?_
  rintro e w1 ⟨S, rfl, s1⟩
  have bR1 := bR.below s1.below z0
  have z1 := s1.below.size
  have hSz := s1.hS
  go_wp2_with fail
  refine (l10Spoil_any W0 w1 W0.heap.size S A n c 0 bs hb0 (by omega) s1 z1).mono ?_
  rintro e w2 ⟨A1, c1, A2, c2, os, q, vs, rfl, hG, sl1, sl2, ⟨lb1, lb2⟩, s2, g2⟩
  replace bR1 := bR1.grown g2 (by simp; omega)
  go_wp2_with fail
  refine (l01Next_any W0 _ _ S A n c 0 bs hb0 (by omega) s2 20 ⟨by omega, by omega⟩).mono ?_
  rintro e w3 ⟨x, rfl, ⟨x0, x1, -⟩, s3, g3⟩
  replace x1 := x1 (by omega)
  replace bR1 := bR1.grown g3 (by simp; omega)
  replace sl1 := sl1.grown g3
  replace sl2 := sl2.grown g3
  have u1 : IntKind.i64.wrap (x - 10) = x - 10 := wr64 _ ⟨by omega, by omega⟩
  go_wp2_with fail
  refine (l01Pick_any W0 _ _ S A n c 0 bs hb0 (by omega) (s3.alloc _) w3.heap.size 2 6 [1, 1, -1, x - 10, 100000, -100001] (Blk.new _ _ _) (by have := s3.lt; omega) rfl (by omega) (by omega)).mono ?_
  rintro e w4 ⟨k, rfl, hk, s4, g4⟩
  have hk2 : i64ok k := by simp at hk; rcases hk with rfl | rfl | rfl | rfl | rfl | rfl <;> exact ⟨by omega, by omega⟩
  have gA := (World.grownBy_alloc w3 (.cells #[.int .i64 1, .int .i64 1, .int .i64 (-1), .int .i64 (x - 10), .int .i64 100000, .int .i64 (-100001)] 2) (some S)).trans g4
  replace bR1 := bR1.grown gA (by simp; omega)
  replace sl1 := sl1.grown gA
  replace sl2 := sl2.grown gA
  clear hk g2 g3 g4 gA u1 s2 s3 s1
  have hres := bR1
  have r0 := hres.cell 0
  have r1 := hres.cell 1
  have r2 := hres.cell 2
  have f0 := hres.frozen 0
  have f1 := hres.frozen 1
  have f2 := hres.frozen 2
  go_wp2_with fail
  have hb3 := put3_blk (x := .slice A1 (List.length os) c1) (y := .int .i64 q) (z := .slice A2 (List.length vs) c2) hres
  have q0 := hb3.cell 0
  have q1 := hb3.cell 1
  have q2 := hb3.cell 2
  unfold put3 at q0 q1 q2
  refine bodyPost_ret (v := .tuple #[.agg #[.slice A1 (List.length os) c1, .int .i64 q, .slice A2 (List.length vs) c2], .int .i64 k]) (by simp [results, Try.results24, go_sem, q0, q1, q2]) rfl ?_
  exact ⟨A1, c1, A2, c2, os, q, vs, k, rfl, hG, hk2, slS_out sl1 lb1 (by omega), slS_out sl2 lb2 (by omega), put3_below (k0.trans (s4.below.mono (by omega))) (Nat.le_refl _)⟩
/-- A metric that was made, as one that can be read. -/
theorem DrM.s {w0 w w' : World} {B S : Nat} {A : Option Addr} {n c lo : Nat} {E : Option Int} {R : List Int → Int → List Int → Prop} {e : Ending} (hR : ∀ os q vs, R os q vs → ∃ most, most ≤ 16 ∧ Sml most os q vs) (h : DrM w0 B S A n c lo E w R e w') : DrS w0 B S A n c lo w GenM e w' := by
  obtain ⟨v1, v2, os, q, vs, rfl, hP, o1, o2, ap, s, g⟩ := h
  obtain ⟨most, hm, hS⟩ := hR _ _ _ hP
  obtain ⟨A1, c1, rfl, s1⟩ := o1.slS hS.rng1 s
  obtain ⟨A2, c2, rfl, s2⟩ := o2.slS hS.rng2 s
  have h4 := hS.ok.l4
  have h16 := hS.ok.lt
  have d1 := hS.ok.d1
  have d2 := hS.ok.d2
  exact ⟨A1, c1, A2, c2, os, q, vs, rfl, ⟨by omega, by omega, ⟨by omega, by omega⟩⟩, s1, s2, ⟨o1.loB, o2.loB⟩, s.any, g⟩
theorem smallS_any (w0 w : World) (B S : Nat) (A : Option Addr) (n c lo : Nat) (bs : List Int) (hb : SlB w0 B A n c bs) (hn : n ≤ 1048576) (hs : Src w0 B S A n c lo w) (hBw : B ≤ w.heap.size) (most : Int) (m0 : 0 ≤ most) (m1 : most ≤ 16) :
    Calls Try.prog 72 #[.pointer (some ⟨S, 0, none⟩), .int .i64 most] w (DrS w0 B S A n c lo w GenM) :=
  (small_any w0 B S A n c bs hb hn n lo (by omega) most m0 m1 w hs hBw).mono fun _ _ h => h.s fun _ _ _ hS => ⟨most, m1, hS⟩
/-- A slice that lies from L on is as it was where a block below L was stored to. -/
theorem slS_low {w : World} {S R L : Nat} {A : Option Addr} {n c : Nat} {xs : List Int} {x y z : Value} (h : SlS w S A n c xs) (hl : LoB L A n) (hR : R < L) : SlS (put3 w R x y z) S A n c xs :=
  slS_keep (M := R) h (fun b hb hn => by
    obtain ⟨off, sp, e⟩ := hb
    have hne : b ≠ R := by have := hl b off sp e hn; omega
    unfold put3
    rw [Below.heap_setCell _ _ _ _ hne, Below.heap_setCell _ _ _ _ hne, Below.heap_setCell _ _ _ _ hne]) (by rw [put3_size]; exact Nat.le_refl _)
theorem LoB.less {L L' : Nat} {A : Option Addr} {n : Nat} (h : LoB L A n) (hl : L' ≤ L) : LoB L' A n := fun b off sp e hn => Nat.le_trans hl (h b off sp e hn)
theorem SlS.alloc {w : World} {S : Nat} {A : Option Addr} {n c : Nat} {xs : List Int} (h : SlS w S A n c xs) (o : Obj) : SlS (w.alloc o) S A n c xs := h.grown (World.grownBy_alloc _ _ _)
/-- It returned two metrics that it made. -/
def DTwo (w : World) (e : Ending) (w' : World) : Prop := ∃ A1 c1 A2 c2 os q vs E1 d1 E2 d2 ps y us, e = .returned (.tuple #[.agg #[.slice A1 (List.length os) c1, .int .i64 q, .slice A2 (List.length vs) c2], .agg #[.slice E1 (List.length ps) d1, .int .i64 y, .slice E2 (List.length us) d2]]) ∧ GenM os q vs ∧ GenM ps y us ∧
  Sl w' w'.heap.size A1 os.length c1 os ∧ Sl w' w'.heap.size A2 vs.length c2 vs ∧ Sl w' w'.heap.size E1 ps.length d1 ps ∧ Sl w' w'.heap.size E2 us.length d2 us ∧ Below w.heap.size w w'
/-- A metric in block M that can be read; the source. -/
structure MtS (W0 : World) (S : Nat) (A : Option Addr) (n c : Nat) (M R1 R2 : Nat) (wx : World) : Prop where
  m : ∃ A1 c1 A2 c2 os q vs, Blk wx M 26 #[.slice A1 (List.length os) c1, .int .i64 q, .slice A2 (List.length vs) c2] ∧ GenM os q vs ∧ SlS wx S A1 os.length c1 os ∧ SlS wx S A2 vs.length c2 vs ∧ LoB W0.heap.size A1 os.length ∧ LoB W0.heap.size A2 vs.length
  r1 : Blk wx R1 26 #[.slice none 0 0, .int .i64 0, .slice none 0 0]
  r2 : Blk wx R2 26 #[.slice none 0 0, .int .i64 0, .slice none 0 0]
  src : Src W0 W0.heap.size S A n c 0 wx
section
variable {W0 wx wy : World} {S : Nat} {A : Option Addr} {n c M R1 R2 : Nat}
theorem MtS.call (h : MtS W0 S A n c M R1 R2 wx) (hM : M ≠ S) (h1 : R1 ≠ S) (h2 : R2 ≠ S) (hs : Src W0 W0.heap.size S A n c 0 wy) (g : wx.grownBy wy (some S)) : MtS W0 S A n c M R1 R2 wy := by
  obtain ⟨⟨A1, c1, A2, c2, os, q, vs, b1, hG, a1, a2, l1, l2⟩, r1, r2, _⟩ := h
  exact ⟨⟨A1, c1, A2, c2, os, q, vs, b1.grown g (by simp; omega), hG, a1.grown g, a2.grown g, l1, l2⟩, r1.grown g (by simp; omega), r2.grown g (by simp; omega), hs⟩
theorem drew_g (w : World) (row : Option Nat) : w.grownBy w.drew row := ⟨rfl, rfl, rfl, Nat.le_refl _, fun _ _ _ => rfl⟩
end
set_option maxRecDepth 100000 in
set_option maxHeartbeats 4000000 in
theorem drawSum_any (w : World) (A : Option Addr) (n c : Nat) (bs : List Int) (hb : SlB w w.heap.size A n c bs) (hn : n ≤ 4096) : Calls Try.prog 32 #[.slice A n c] w (DTwo w) := by
  go_enter Try.func32, Try.ntmps32
  obtain ⟨W0, hW0⟩ : ∃ W0, (w.alloc (.cells #[.slice none 0 0, .int .i64 0, .slice none 0 0] 26)).alloc (.cells #[.slice none 0 0, .int .i64 0, .slice none 0 0] 26) = W0 := ⟨_, rfl⟩
  have bR : Blk W0 w.heap.size 26 #[.slice none 0 0, .int .i64 0, .slice none 0 0] := by rw [← hW0]; exact (Blk.new _ _ _).alloc _
  have bR2 : Blk W0 (w.heap.size + 1) 26 #[.slice none 0 0, .int .i64 0, .slice none 0 0] := by rw [← hW0]; exact Blk.new' _ _ _ _ (by simp)
  have k0 : Below w.heap.size w W0 := by rw [← hW0]; exact (by repeat (first | assumption | exact Below.refl _ _ | apply below_drewN | apply Below.drew | apply Below.alloc | apply Below.setCell | omega | (focus (simp; done)) | (focus (simp; omega))))
  have z0 : w.heap.size + 2 = W0.heap.size := by rw [← hW0]; simp
  have hb0 : SlB W0 W0.heap.size A n c bs := ⟨hb.len, hb.cap, hb.rng, fun h => by
    obtain ⟨b, off, e, hlt, hc⟩ := hb.at_ h
    exact ⟨b, off, e, by omega, fun k hk => (k0.cell (p := ⟨b, off + k, none⟩) hlt).trans (hc k hk)⟩⟩
  go_wp2_with fail
  clear hW0
  refine (l01From_any W0 A n c bs hb0 hn).mono ?_
  rintro e w1 ⟨S, rfl, s1⟩
  have bR := bR.below s1.below (by omega)
  have bR2 := bR2.below s1.below (by omega)
  have z1 := s1.below.size
  have hSz := s1.hS
  go_wp2_with fail
  refine (l10Spoil_any W0 w1 W0.heap.size S A n c 0 bs hb0 (by omega) s1 z1).mono ?_
  rintro e w2 ⟨A1, c1, A2, c2, os, q, vs, rfl, hG, sl1, sl2, ⟨lb1, lb2⟩, s2, g2⟩
  replace bR := bR.grown g2 (by simp; omega)
  replace bR2 := bR2.grown g2 (by simp; omega)
  have z2 := g2.size
  obtain ⟨w3, gm, hgm, hw3, hB3, hsub, bM, hgB⟩ := be_alloc (Below.refl w2.heap.size w2) 26 #[.slice none 0 0, .int .i64 0, .slice none 0 0]
  have hgS : gm ≠ S := by have := s2.lt; rw [← hgm]; omega
  have hgW : W0.heap.size ≤ gm := by rw [← hgm]; omega
  have hM : MtS W0 S A n c gm w.heap.size (w.heap.size + 1) (put3 w3 gm (.slice A1 os.length c1) (.int .i64 q) (.slice A2 vs.length c2)) := by
    have a1 : SlS w3 S A1 os.length c1 os := by rw [← hw3]; exact sl1.alloc _
    have a2 : SlS w3 S A2 vs.length c2 vs := by rw [← hw3]; exact sl2.alloc _
    have m1 : SlS w3 gm A1 os.length c1 os := ⟨a1.sl, fun b off sp e hn => by obtain ⟨b', off', e', hlt, _⟩ := sl1.sl.at_ hn; rw [e'] at e; injection e with e; injection e with e1; omega⟩
    have m2 : SlS w3 gm A2 vs.length c2 vs := ⟨a2.sl, fun b off sp e hn => by obtain ⟨b', off', e', hlt, _⟩ := sl2.sl.at_ hn; rw [e'] at e; injection e with e; injection e with e1; omega⟩
    exact ⟨⟨A1, c1, A2, c2, os, q, vs, put3_blk bM, hG, slS_put3 a1 m1, slS_put3 a2 m2, lb1.less z1, lb2.less z1⟩, put3_far (bR.all hB3) (by omega), put3_far (bR2.all hB3) (by omega), ((s2.e.all hB3 (by omega)).put3 hgS hgW _ _ _).any⟩
  obtain ⟨W3, hW3⟩ : ∃ W3, put3 w3 gm (.slice A1 os.length c1) (.int .i64 q) (.slice A2 vs.length c2) = W3 := ⟨_, rfl⟩
  have r0 := bM.cell 0
  have r1 := bM.cell 1
  have r2 := bM.cell 2
  have f0 := bM.frozen 0
  have f1 := bM.frozen 1
  have f2 := bM.frozen 2
  rw [hW3] at hM
  unfold put3 at hW3
  clear hB3 hsub bM bR bR2 s2 g2 sl1 sl2 lb1 lb2 hG
  go_wp2_with fail
  clear hw3 hW3 r0 r1 r2 f0 f1 f2
  refine (l01Next_any W0 _ _ S A n c 0 bs hb0 (by omega) hM.src 3 ⟨by omega, by omega⟩).mono ?_
  rintro e w4 ⟨x, rfl, ⟨x0, x1, -⟩, s4, g4⟩
  have hRS1 : w.heap.size ≠ S := by omega
  have hRS2 : w.heap.size + 1 ≠ S := by omega
  replace hM := hM.call hgS hRS1 hRS2 s4 g4
  have hlm : gm < w4.heap.size := by obtain ⟨⟨A1, c1, A2, c2, os, q, vs, b1, _⟩, _⟩ := hM; exact b1.lt
  clear s4 g4
  have hz4 := hM.src.below.size
  go_upto_if 12 with fail
  go_cut [] (fun wx => MtS W0 S A n c gm w.heap.size (w.heap.size + 1) wx)
  case first =>
    by_cases hx : x > 0
    · go_wp2_with fail
      refine (smallS_any W0 w4 W0.heap.size S A n c 0 bs hb0 (by omega) hM.src hz4 4 (by omega) (by omega)).mono ?_
      rintro e w5 ⟨E1, d1, E2, d2, ps, y, us, rfl, hG2, e1, e2, ⟨lf1, lf2⟩, s5, g5⟩
      replace hM := hM.call hgS hRS1 hRS2 s5 g5
      obtain ⟨⟨A1, c1, A2, c2, os, q, vs, b1, hG, a1, a2, l1, l2⟩, t1, t2, sr⟩ := hM
      have lgm : gm < w4.heap.size := hlm
      have r0 := b1.cell 0
      have r1 := b1.cell 1
      have r2 := b1.cell 2
      have f0 := b1.frozen 0
      have f1 := b1.frozen 1
      have f2 := b1.frozen 2
      go_wp2_with fail
      go_meet
      exact ⟨⟨E1, d1, E2, d2, ps, y, us, put3_blk b1, hG2, slS_low e1 lf1 lgm, slS_low e2 lf2 lgm, lf1.less hz4, lf2.less hz4⟩, put3_far t1 (by omega), put3_far t2 (by omega), (sr.e.put3 hgS hgW _ _ _).any⟩
    · go_wp2_with fail
      go_meet
      exact hM
  case rest =>
    clear hM x0 x1
    have hM := hcut
    clear hcut
    go_wp2_with fail
    refine (l01Next_any W0 _ _ S A n c 0 bs hb0 (by omega) hM.src 6 ⟨by omega, by omega⟩).mono ?_
    rintro e w5 ⟨x, rfl, ⟨x0, x1, -⟩, s5, g5⟩
    replace hM := hM.call hgS hRS1 hRS2 s5 g5
    have hz5 := hM.src.below.size
    clear s5 g5
    by_cases hx : x = 0
    · subst hx
      obtain ⟨⟨A1, c1, A2, c2, os, q, vs, b1, hG, a1, a2, l1, l2⟩, t1, t2, sr⟩ := hM
      have j0 := b1.cell 0
      have j1 := b1.cell 1
      have j2 := b1.cell 2
      go_wp2_with fail
      refine wp_region_ord [0, 1, 2, 3, 4] 4 (fun wx => wx.cell? ⟨gm, 0, none⟩ = some (.slice A1 (List.length os) c1) ∧ wx.cell? ⟨gm, 1, none⟩ = some (.int .i64 q) ∧ wx.cell? ⟨gm, 2, none⟩ = some (.slice A2 (List.length vs) c2)) (by kernel_rfl) (by kernel_rfl) (by kernel_rfl) (fun _ _ _ _ _ h => h) ⟨j0, j1, j2⟩ ?_
      repeat (apply ord_take rfl (by rfl) (by rfl); (focus (intro w hSw; (try dsimp only at hSw); go_simp; (try with_reducible rfl))); (try simp only [Act.put, List.setIfInBounds_toArray, List.set_cons_zero, List.set_cons_succ]))
      refine ord_do rfl (by rfl) (by rfl) (fun K hK => ?_)
      go_simp
      have sd : Src W0 W0.heap.size S A n c 0 w5.drew := sr.drewN 1
      refine (l10Spoil_any W0 w5.drew W0.heap.size S A n c 0 bs hb0 (by omega) sd (show W0.heap.size ≤ w5.heap.size from hz5) ).mono ?_
      rintro e w6 ⟨E1, d1, E2, d2, ps, y, us, rfl, hG2, e1, e2, ⟨lf1, lf2⟩, s6, g6⟩
      have gD := (drew_g w5 (some S)).trans g6
      replace b1 := b1.grown gD (by simp; omega)
      replace t1 := t1.grown gD (by simp; omega)
      replace t2 := t2.grown gD (by simp; omega)
      replace a1 := a1.grown gD
      replace a2 := a2.grown gD
      clear j0 j1 j2
      refine hK.out _ _ (fun _ => ⟨b1.cell 0, b1.cell 1, b1.cell 2⟩) ?_
      (try simp only [Act.put, List.setIfInBounds_toArray, List.set_cons_zero, List.set_cons_succ])
      clear hK K
      have lz5 : W0.heap.size ≤ w5.drew.heap.size := hz5
      have k6 := k0.trans (s6.below.mono (show w.heap.size ≤ W0.heap.size by omega))
      have n1 := put3_far (x := .slice A1 (List.length os) c1) (y := .int .i64 q) (z := .slice A2 (List.length vs) c2) b1 (show gm ≠ w.heap.size by omega)
      have n2 := put3_far (x := .slice A1 (List.length os) c1) (y := .int .i64 q) (z := .slice A2 (List.length vs) c2) t2 (show w.heap.size + 1 ≠ w.heap.size by omega)
      have n3 := put3_blk (x := .slice A1 (List.length os) c1) (y := .int .i64 q) (z := .slice A2 (List.length vs) c2) t1
      have n4 := slS_low (x := .slice A1 (List.length os) c1) (y := .int .i64 q) (z := .slice A2 (List.length vs) c2) a1 l1 (show w.heap.size < W0.heap.size by omega)
      have n5 := slS_low (x := .slice A1 (List.length os) c1) (y := .int .i64 q) (z := .slice A2 (List.length vs) c2) a2 l2 (show w.heap.size < W0.heap.size by omega)
      have n6 := slS_low (x := .slice A1 (List.length os) c1) (y := .int .i64 q) (z := .slice A2 (List.length vs) c2) e1 lf1 (show w.heap.size < w5.drew.heap.size by omega)
      have n7 := slS_low (x := .slice A1 (List.length os) c1) (y := .int .i64 q) (z := .slice A2 (List.length vs) c2) e2 lf2 (show w.heap.size < w5.drew.heap.size by omega)
      have n8 := put3_below (x := .slice A1 (List.length os) c1) (y := .int .i64 q) (z := .slice A2 (List.length vs) c2) k6 (Nat.le_refl _)
      obtain ⟨W7, hW7⟩ : ∃ W7, put3 w6 w.heap.size (.slice A1 (List.length os) c1) (.int .i64 q) (.slice A2 (List.length vs) c2) = W7 := ⟨_, rfl⟩
      have r0 := t1.cell 0
      have r1 := t1.cell 1
      have r2 := t1.cell 2
      have f0 := t1.frozen 0
      have f1 := t1.frozen 1
      have f2 := t1.frozen 2
      rw [hW7] at n1 n2 n3 n4 n5 n6 n7 n8
      unfold put3 at hW7
      clear b1 t1 t2 a1 a2 e1 e2 g6 gD sd
      refine ord_do rfl (by rfl) (by rfl) (fun K hK => ?_)
      go_simp
      refine hK.out _ _ (fun _ => ⟨n1.cell 0, n1.cell 1, n1.cell 2⟩) ?_
      (try simp only [Act.put, List.setIfInBounds_toArray, List.set_cons_zero, List.set_cons_succ])
      clear hK K
      clear r0 r1 r2 f0 f1 f2 hW7
      have r0 := n2.cell 0
      have r1 := n2.cell 1
      have r2 := n2.cell 2
      have f0 := n2.frozen 0
      have f1 := n2.frozen 1
      have f2 := n2.frozen 2
      refine ord_do rfl (by rfl) (by rfl) (fun K hK => ?_)
      go_simp
      refine hK.out _ _ (fun h => absurd h (by omega)) ?_
      (try simp only [Act.put, List.setIfInBounds_toArray, List.set_cons_zero, List.set_cons_succ])
      clear hK K
      refine ord_nil ?_
      have m1 := put3_blk (x := .slice E1 (List.length ps) d1) (y := .int .i64 y) (z := .slice E2 (List.length us) d2) n2
      have m2 := put3_far (x := .slice E1 (List.length ps) d1) (y := .int .i64 y) (z := .slice E2 (List.length us) d2) n3 (show w.heap.size ≠ w.heap.size + 1 by omega)
      go_wp2_with fail
      have q0 := m1.cell 0
      have q1 := m1.cell 1
      have q2 := m1.cell 2
      have p0 := m2.cell 0
      have p1 := m2.cell 1
      have p2 := m2.cell 2
      unfold put3 at q0 q1 q2 p0 p1 p2
      refine bodyPost_ret (v := .tuple #[.agg #[.slice A1 (List.length os) c1, .int .i64 q, .slice A2 (List.length vs) c2], .agg #[.slice E1 (List.length ps) d1, .int .i64 y, .slice E2 (List.length us) d2]]) (by simp [results, Try.results32, go_sem, q0, q1, q2, p0, p1, p2]) rfl ?_
      exact ⟨A1, c1, A2, c2, os, q, vs, E1, d1, E2, d2, ps, y, us, rfl, hG, hG2, slS_out n4 l1 (show w.heap.size + 1 < W0.heap.size by omega), slS_out n5 l2 (show w.heap.size + 1 < W0.heap.size by omega), slS_out n6 lf1 (show w.heap.size + 1 < w5.drew.heap.size by omega), slS_out n7 lf2 (show w.heap.size + 1 < w5.drew.heap.size by omega), put3_below n8 (by omega)⟩
    · skip
      obtain ⟨⟨A1, c1, A2, c2, os, q, vs, b1, hG, a1, a2, l1, l2⟩, t1, t2, sr⟩ := hM
      have j0 := b1.cell 0
      have j1 := b1.cell 1
      have j2 := b1.cell 2
      go_wp2_with fail
      refine wp_region_ord [0, 1, 2, 3, 4] 4 (fun wx => wx.cell? ⟨gm, 0, none⟩ = some (.slice A1 (List.length os) c1) ∧ wx.cell? ⟨gm, 1, none⟩ = some (.int .i64 q) ∧ wx.cell? ⟨gm, 2, none⟩ = some (.slice A2 (List.length vs) c2)) (by kernel_rfl) (by kernel_rfl) (by kernel_rfl) (fun _ _ _ _ _ h => h) ⟨j0, j1, j2⟩ ?_
      repeat (apply ord_take rfl (by rfl) (by rfl); (focus (intro w hSw; (try dsimp only at hSw); go_simp; (try with_reducible rfl))); (try simp only [Act.put, List.setIfInBounds_toArray, List.set_cons_zero, List.set_cons_succ]))
      refine ord_do rfl (by rfl) (by rfl) (fun K hK => ?_)
      go_simp
      have sd : Src W0 W0.heap.size S A n c 0 w5.drew := sr.drewN 1
      refine (smallS_any W0 w5.drew W0.heap.size S A n c 0 bs hb0 (by omega) sd (show W0.heap.size ≤ w5.heap.size from hz5) 4 (by omega) (by omega)).mono ?_
      rintro e w6 ⟨E1, d1, E2, d2, ps, y, us, rfl, hG2, e1, e2, ⟨lf1, lf2⟩, s6, g6⟩
      have gD := (drew_g w5 (some S)).trans g6
      replace b1 := b1.grown gD (by simp; omega)
      replace t1 := t1.grown gD (by simp; omega)
      replace t2 := t2.grown gD (by simp; omega)
      replace a1 := a1.grown gD
      replace a2 := a2.grown gD
      clear j0 j1 j2
      refine hK.out _ _ (fun _ => ⟨b1.cell 0, b1.cell 1, b1.cell 2⟩) ?_
      (try simp only [Act.put, List.setIfInBounds_toArray, List.set_cons_zero, List.set_cons_succ])
      clear hK K
      have lz5 : W0.heap.size ≤ w5.drew.heap.size := hz5
      have k6 := k0.trans (s6.below.mono (show w.heap.size ≤ W0.heap.size by omega))
      have n1 := put3_far (x := .slice A1 (List.length os) c1) (y := .int .i64 q) (z := .slice A2 (List.length vs) c2) b1 (show gm ≠ w.heap.size by omega)
      have n2 := put3_far (x := .slice A1 (List.length os) c1) (y := .int .i64 q) (z := .slice A2 (List.length vs) c2) t2 (show w.heap.size + 1 ≠ w.heap.size by omega)
      have n3 := put3_blk (x := .slice A1 (List.length os) c1) (y := .int .i64 q) (z := .slice A2 (List.length vs) c2) t1
      have n4 := slS_low (x := .slice A1 (List.length os) c1) (y := .int .i64 q) (z := .slice A2 (List.length vs) c2) a1 l1 (show w.heap.size < W0.heap.size by omega)
      have n5 := slS_low (x := .slice A1 (List.length os) c1) (y := .int .i64 q) (z := .slice A2 (List.length vs) c2) a2 l2 (show w.heap.size < W0.heap.size by omega)
      have n6 := slS_low (x := .slice A1 (List.length os) c1) (y := .int .i64 q) (z := .slice A2 (List.length vs) c2) e1 lf1 (show w.heap.size < w5.drew.heap.size by omega)
      have n7 := slS_low (x := .slice A1 (List.length os) c1) (y := .int .i64 q) (z := .slice A2 (List.length vs) c2) e2 lf2 (show w.heap.size < w5.drew.heap.size by omega)
      have n8 := put3_below (x := .slice A1 (List.length os) c1) (y := .int .i64 q) (z := .slice A2 (List.length vs) c2) k6 (Nat.le_refl _)
      obtain ⟨W7, hW7⟩ : ∃ W7, put3 w6 w.heap.size (.slice A1 (List.length os) c1) (.int .i64 q) (.slice A2 (List.length vs) c2) = W7 := ⟨_, rfl⟩
      have r0 := t1.cell 0
      have r1 := t1.cell 1
      have r2 := t1.cell 2
      have f0 := t1.frozen 0
      have f1 := t1.frozen 1
      have f2 := t1.frozen 2
      rw [hW7] at n1 n2 n3 n4 n5 n6 n7 n8
      unfold put3 at hW7
      clear b1 t1 t2 a1 a2 e1 e2 g6 gD sd
      refine ord_do rfl (by rfl) (by rfl) (fun K hK => ?_)
      go_simp
      refine hK.out _ _ (fun _ => ⟨n1.cell 0, n1.cell 1, n1.cell 2⟩) ?_
      (try simp only [Act.put, List.setIfInBounds_toArray, List.set_cons_zero, List.set_cons_succ])
      clear hK K
      clear r0 r1 r2 f0 f1 f2 hW7
      have r0 := n2.cell 0
      have r1 := n2.cell 1
      have r2 := n2.cell 2
      have f0 := n2.frozen 0
      have f1 := n2.frozen 1
      have f2 := n2.frozen 2
      refine ord_do rfl (by rfl) (by rfl) (fun K hK => ?_)
      go_simp
      refine hK.out _ _ (fun h => absurd h (by omega)) ?_
      (try simp only [Act.put, List.setIfInBounds_toArray, List.set_cons_zero, List.set_cons_succ])
      clear hK K
      refine ord_nil ?_
      have m1 := put3_blk (x := .slice E1 (List.length ps) d1) (y := .int .i64 y) (z := .slice E2 (List.length us) d2) n2
      have m2 := put3_far (x := .slice E1 (List.length ps) d1) (y := .int .i64 y) (z := .slice E2 (List.length us) d2) n3 (show w.heap.size ≠ w.heap.size + 1 by omega)
      go_wp2_with fail
      have q0 := m1.cell 0
      have q1 := m1.cell 1
      have q2 := m1.cell 2
      have p0 := m2.cell 0
      have p1 := m2.cell 1
      have p2 := m2.cell 2
      unfold put3 at q0 q1 q2 p0 p1 p2
      refine bodyPost_ret (v := .tuple #[.agg #[.slice A1 (List.length os) c1, .int .i64 q, .slice A2 (List.length vs) c2], .agg #[.slice E1 (List.length ps) d1, .int .i64 y, .slice E2 (List.length us) d2]]) (by simp [results, Try.results32, go_sem, q0, q1, q2, p0, p1, p2]) rfl ?_
      exact ⟨A1, c1, A2, c2, os, q, vs, E1, d1, E2, d2, ps, y, us, rfl, hG, hG2, slS_out n4 l1 (show w.heap.size + 1 < W0.heap.size by omega), slS_out n5 l2 (show w.heap.size + 1 < W0.heap.size by omega), slS_out n6 lf1 (show w.heap.size + 1 < w5.drew.heap.size by omega), slS_out n7 lf2 (show w.heap.size + 1 < w5.drew.heap.size by omega), put3_below n8 (by omega)⟩

/-- A source of draws over some bytes lies in block S; nothing below B has changed. -/
structure Dce (w0 : World) (B S : Nat) (A : Option Addr) (n c : Nat) (w : World) : Prop where
  src : ∃ (a : Nat) (h : Int), 0 ≤ h ∧ h < 18446744073709551616 ∧ a ≤ n ∧ Blk w S 71 #[.slice A n c, .int .i64 a, .int .u64 h]
  below : Below B w0 w
  hS : B ≤ S
/-- It returned a number and drew from the source alone. -/
def Dcw (w0 : World) (B S : Nat) (A : Option Addr) (n c : Nat) (w : World) (p : Int → Prop) (e : Ending) (w' : World) : Prop :=
  ∃ x, e = .returned (.int .i64 x) ∧ p x ∧ Dce w0 B S A n c w' ∧ w.grownBy w' (some S)

theorem Dce.lt {w0 w : World} {B S : Nat} {A : Option Addr} {n c : Nat} (h : Dce w0 B S A n c w) : S < w.heap.size := by obtain ⟨⟨a, g, _, _, _, hb⟩, _, _⟩ := h; exact hb.lt
theorem Dce.alloc {w0 w : World} {B S : Nat} {A : Option Addr} {n c : Nat} (h : Dce w0 B S A n c w) (o : Obj) : Dce w0 B S A n c (w.alloc o) := by
  have hl := h.lt
  obtain ⟨⟨a, g, g0, g1, ha, hb⟩, hbe, hS⟩ := h
  exact ⟨⟨a, g, g0, g1, ha, hb.alloc o⟩, hbe.alloc (by omega) o, hS⟩
theorem Dce.drewN {w0 w : World} {B S : Nat} {A : Option Addr} {n c : Nat} (h : Dce w0 B S A n c w) (m : Nat) : Dce w0 B S A n c (w.drewN m) := by
  obtain ⟨⟨a, g, g0, g1, ha, hb⟩, hbe, hS⟩ := h
  exact ⟨⟨a, g, g0, g1, ha, hb⟩, below_drewN hbe m, hS⟩
set_option maxRecDepth 100000 in
set_option maxHeartbeats 2000000 in
theorem dice_any (w0 w : World) (B S : Nat) (A : Option Addr) (n c : Nat) (bs : List Int) (hb : SlB w0 B A n c bs) (hn : n ≤ 1048576) (hs : Dce w0 B S A n c w) (m : Int) (hm : i64ok m) :
    Calls Try.prog 16 #[.pointer (some ⟨S, 0, none⟩), .int .i64 m] w (Dcw w0 B S A n c w (fun x => 0 ≤ x ∧ (1 ≤ m → x < m) ∧ x ≤ 16777470)) := by
  by_cases h1 : m < 1
  · go_enter Try.func16, Try.ntmps16
    go_wp2_with fail
    go_ret
    exact ⟨0, rfl, ⟨by omega, fun h => by omega, by omega⟩, hs, World.grownBy.refl _ _⟩
  · obtain ⟨⟨a, h, h0, h2, ha, hS⟩, hbe, hBS⟩ := hs
    obtain ⟨g, hg⟩ : ∃ g, IntKind.u64.wrap (h * 6364136223846793005) = g := ⟨_, rfl⟩
    obtain ⟨k, hk⟩ : ∃ k, IntKind.u64.wrap (g + 1442695040888963407) = k := ⟨_, rfl⟩
    obtain ⟨k0, k1⟩ := wr_u64 (g + 1442695040888963407)
    rw [hk] at k0 k1
    have hx := mask24 k k0 k1
    obtain ⟨x, ex⟩ : ∃ x, k / 8589934592 % 16777216 = x := ⟨_, rfl⟩
    have x0 : 0 ≤ x ∧ x ≤ 16777215 := by omega
    rw [ex] at hx
    have hx2 : wrap64 x = x := wrap64_ok _ ⟨by omega, by omega⟩
    clear ex
    have bS1 : Blk (w.setCell ⟨S, 2, none⟩ (.int .u64 k)) S 71 #[.slice A n c, .int .i64 a, .int .u64 k] := hS.store 2 (.int .u64 k)
    have HG0 := hide (hS.setCell_grown 2 (.int .u64 k))
    obtain ⟨W1, hW1⟩ : ∃ W1, w.setCell ⟨S, 2, none⟩ (.int .u64 k) = W1 := ⟨_, rfl⟩
    have HB1 := hide (show Below B w0 W1 by rw [← hW1]; exact hbe.setCell hBS _)
    rw [hW1] at bS1 HG0
    have x0 := hS.cell 0
    have x1 := hS.cell 1
    have x2 := hS.cell 2
    have f2 := hS.frozen 2
    go_enter Try.func16, Try.ntmps16
    have y0 := bS1.cell 0
    have y1 := bS1.cell 1
    have y2 := bS1.cell 2
    go_wp2_with fail
    clear hW1 x0 x1 x2 f2 hS hbe
    refine wp_region_dr [0, 1, 2, 3, 4, 5, 6, 7, 8, 9] 10 W1 (by kernel_rfl) (by kernel_rfl) (by kernel_rfl) (fun _ _ _ _ _ h => h) (Dr.refl _) (fun wd hDr => ?_)
    repeat (first | (apply ord_tk rfl (by rfl) (by rfl) (by rfl); (focus (rintro w ⟨dm, rfl⟩; go_simp; (try with_reducible rfl))); (try simp only [Act.put, List.setIfInBounds_toArray, List.set_cons_zero, List.set_cons_succ])) | (apply ord_skip rfl (by rfl) (by rfl) (fun _ => hDr); (try simp only [Act.put, List.setIfInBounds_toArray, List.set_cons_zero, List.set_cons_succ])))
    refine ord_nil ?_
    have t3 : ¬ m = 0 := by omega
    by_cases hlt : a < n
    · obtain ⟨b, off, rfl, hbb, hc⟩ := hb.at_ (by omega)
      have c1 := (HB1.out.cell (p := ⟨b, off + a, none⟩) hbb).trans (hc a hlt)
      have y0 := hb.rng _ (gi_mem (show a < bs.length by rw [hb.len]; exact hlt))
      obtain ⟨y, ey⟩ : ∃ y, gi bs a = y := ⟨_, rfl⟩
      rw [ey] at c1 y0
      clear hc ey
      have i1 : (a : Int) < (n : Int) := by omega
      have i0 : 0 ≤ (a : Int) := by omega
      have v0 : IntKind.i64.wrap y = y := wr64 _ ⟨by omega, by omega⟩
      have v1 : IntKind.i64.wrap (x + y) = x + y := wr64 _ ⟨by omega, by omega⟩
      have v2 : (x + y).tmod m = (x + y) % m := Int.tmod_eq_emod_of_nonneg (by omega)
      have m0 := Int.emod_nonneg (x + y) t3
      have m1 := Int.emod_lt_of_pos (x + y) (show 0 < m by omega)
      have m2 : (x + y) % m ≤ 16777470 := by have := emod_le (show 0 ≤ x + y by omega) (show 0 < m by omega); omega
      obtain ⟨r, hr⟩ : ∃ r, (x + y) % m = r := ⟨_, rfl⟩
      rw [hr] at v2 m0 m1 m2
      clear hr
      have hcap := hb.cap
      go_wp2_with fail
      refine wp_region_dr [0, 1, 2, 3, 4, 5, 6, 7, 8, 9, 10, 11, 12, 13] 13 W1 (by kernel_rfl) (by kernel_rfl) (by kernel_rfl) (fun _ _ _ _ _ h => h) hDr (fun wd hDr => ?_)
      repeat (first | (apply ord_tk rfl (by rfl) (by rfl) (by rfl); (focus (rintro w ⟨dm, rfl⟩; go_simp; (try with_reducible rfl))); (try simp only [Act.put, List.setIfInBounds_toArray, List.set_cons_zero, List.set_cons_succ])) | (apply ord_skip rfl (by rfl) (by rfl) (fun _ => hDr); (try simp only [Act.put, List.setIfInBounds_toArray, List.set_cons_zero, List.set_cons_succ])))
      refine ord_do rfl (by rfl) (by rfl) (fun K hK => ?_)
      go_simp
      refine hK.out _ _ (fun h => absurd h (by omega)) ?_
      (try simp only [Act.put, List.setIfInBounds_toArray, List.set_cons_zero, List.set_cons_succ])
      clear hK K
      refine ord_nil ?_
      have u1 : IntKind.i64.wrap ((a : Int) + 1) = ((a + 1 : Nat) : Int) := by rw [wr64 _ ⟨by omega, by omega⟩]; omega
      have f1 := bS1.frozen 1
      obtain ⟨dm, rfl⟩ := hDr
      go_wp2_with fail
      go_ret
      have bS2 : Blk (W1.drewN dm) S 71 #[.slice (some ⟨b, off, none⟩) n c, .int .i64 a, .int .u64 k] := bS1
      refine ⟨r, rfl, ⟨m0, fun _ => m1, m2⟩, ⟨⟨a + 1, k, k0, k1, by omega, bS2.store 1 (.int .i64 ((a + 1 : Nat) : Int))⟩, (below_drewN HB1.out dm).setCell hBS _, hBS⟩, ?_⟩
      exact (HG0.out.trans (⟨rfl, rfl, rfl, Nat.le_refl _, fun _ _ _ => rfl⟩ : W1.grownBy (W1.drewN dm) (some S))).trans (bS2.setCell_grown 1 _)
    · have hna : a = n := by omega
      have v2 : x.tmod m = x % m := Int.tmod_eq_emod_of_nonneg (by omega)
      have m0 := Int.emod_nonneg x t3
      have m1 := Int.emod_lt_of_pos x (show 0 < m by omega)
      have m2 : x % m ≤ 16777470 := by have := emod_le (show 0 ≤ x by omega) (show 0 < m by omega); omega
      obtain ⟨dm, rfl⟩ := hDr
      go_wp2_with fail
      go_ret
      refine ⟨x % m, rfl, ⟨m0, fun _ => m1, m2⟩, ⟨⟨a, k, k0, k1, ha, bS1⟩, below_drewN HB1.out dm, hBS⟩, ?_⟩
      exact HG0.out.trans (⟨rfl, rfl, rfl, Nat.le_refl _, fun _ _ _ => rfl⟩ : W1.grownBy (W1.drewN dm) (some S))

/-- It made a source. -/
def Dcf (w : World) (A : Option Addr) (n c : Nat) (e : Ending) (w' : World) : Prop := ∃ S, e = .returned (.pointer (some ⟨S, 0, none⟩)) ∧ Dce w w.heap.size S A n c w'
set_option maxRecDepth 100000 in
set_option maxHeartbeats 2000000 in
theorem roll_any (w : World) (A : Option Addr) (n c : Nat) (bs : List Int) (hb : SlB w w.heap.size A n c bs) (hn : n ≤ 4096) (sd : Int) : Calls Try.prog 15 #[.slice A n c, .int .u64 sd] w (Dcf w A n c) := by
  have v0 : IntKind.u64.wrap (n : Int) = n := wraps63 _ (by omega) (by omega)
  obtain ⟨h7, hh7⟩ : ∃ h7, IntKind.u64.wrap (sd * 6007) = h7 := ⟨_, rfl⟩
  obtain ⟨h8, hh8⟩ : ∃ h8, IntKind.u64.wrap (h7 + (n : Int)) = h8 := ⟨_, rfl⟩
  have hr8 : 0 ≤ h8 ∧ h8 < 18446744073709551616 := by rw [← hh8]; exact wr_u64 _
  go_enter Try.func15, Try.ntmps15
  go_wp2_with fail
  go_loopw [6] (fun i wr => ∃ k : Nat, k ≤ n ∧ i = .int .i64 k ∧ Dce w w.heap.size w.heap.size A n c wr) (fun i _ => n - (intOf i).toNat)
  case atStart => exact ⟨0, by omega, rfl, ⟨⟨0, h8, hr8.1, hr8.2, by omega, Blk.new _ _ _⟩, (by repeat (first | assumption | exact Below.refl _ _ | apply below_drewN | apply Below.drew | apply Below.alloc | apply Below.setCell | omega | (focus (simp; done)) | (focus (simp; omega)))), Nat.le_refl _⟩⟩
  case round =>
    clear v0
    obtain ⟨k, hk, rfl, ⟨⟨a, h, h0, h2, ha, hS⟩, hbe, hBS⟩⟩ := hrel
    by_cases hlt : k < n
    · obtain ⟨b, off, rfl, hbb, hc⟩ := hb.at_ (by omega)
      have c1 := (hbe.cell (p := ⟨b, off + k, none⟩) hbb).trans (hc k hlt)
      have y0 := hb.rng _ (gi_mem (show k < bs.length by rw [hb.len]; exact hlt))
      obtain ⟨y, ey⟩ : ∃ y, gi bs k = y := ⟨_, rfl⟩
      rw [ey] at c1 y0
      clear hc ey
      have i1 : (k : Int) < (n : Int) := by omega
      have i2 : (k : Int) < 4096 := by omega
      have v0 : IntKind.u64.wrap y = y := wraps63 _ (by omega) (by omega)
      obtain ⟨g, hg⟩ : ∃ g, IntKind.u64.wrap (h * 1099511628211) = g := ⟨_, rfl⟩
      obtain ⟨g2, hg2⟩ : ∃ g2, IntKind.u64.wrap (g + y) = g2 := ⟨_, rfl⟩
      obtain ⟨g3, hg3⟩ : ∃ g3, IntKind.u64.wrap (g2 + 5) = g3 := ⟨_, rfl⟩
      obtain ⟨k0, k1⟩ := wr_u64 (g2 + 5)
      rw [hg3] at k0 k1
      have hcap := hb.cap
      have x0 := hS.cell 0
      have x1 := hS.cell 1
      have x2 := hS.cell 2
      have f2 := hS.frozen 2
      go_wp2_with fail
      refine wp_region_dr [0, 1, 2, 3, 4, 5, 6, 7, 8, 9, 10, 11, 12, 13, 14, 15] 13 wr (by kernel_rfl) (by kernel_rfl) (by kernel_rfl) (fun _ _ _ _ _ h => h) (Dr.refl _) (fun wd hDr => ?_)
      repeat (first | (apply ord_tk rfl (by rfl) (by rfl) (by rfl); (focus (rintro w ⟨dm, rfl⟩; go_simp; (try with_reducible rfl))); (try simp only [Act.put, List.setIfInBounds_toArray, List.set_cons_zero, List.set_cons_succ])) | (apply ord_skip rfl (by rfl) (by rfl) (fun _ => hDr); (try simp only [Act.put, List.setIfInBounds_toArray, List.set_cons_zero, List.set_cons_succ])))
      obtain ⟨dm, rfl⟩ := hDr
      refine ord_do rfl (by rfl) (by rfl) (fun K hK => ?_)
      go_simp
      refine hK.out _ _ (fun h => absurd h (by omega)) ?_
      (try simp only [Act.put, List.setIfInBounds_toArray, List.set_cons_zero, List.set_cons_succ])
      clear hK K
      refine ord_do rfl (by rfl) (by rfl) (fun K hK => ?_)
      go_simp
      refine hK.out _ _ (fun h => absurd h (by omega)) ?_
      (try simp only [Act.put, List.setIfInBounds_toArray, List.set_cons_zero, List.set_cons_succ])
      clear hK K
      refine ord_do rfl (by rfl) (by rfl) (fun K hK => ?_)
      go_simp
      refine hK.out _ _ (fun h => absurd h (by omega)) ?_
      (try simp only [Act.put, List.setIfInBounds_toArray, List.set_cons_zero, List.set_cons_succ])
      clear hK K
      refine ord_nil ?_
      go_wp2_with fail
      go_roundw
      case rel =>
        have bS2 : Blk (wr.drewN dm) w.heap.size 71 #[.slice (some ⟨b, off, none⟩) n c, .int .i64 a, .int .u64 h] := hS
        exact ⟨k + 1, by omega, by go_num, ⟨⟨a, g3, k0, k1, ha, bS2.store 2 (.int .u64 g3)⟩, (below_drewN hbe dm).setCell hBS _, hBS⟩⟩
      case measure => simp [intOf] <;> omega
    · obtain rfl : k = n := by omega
      go_wp2_with fail
      go_ret
      exact ⟨w.heap.size, rfl, ⟨⟨a, h, h0, h2, ha, hS⟩, hbe, hBS⟩⟩
end Go.Proofs.Ytnoemhmmaicakaa
