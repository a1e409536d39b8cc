
/- The walks of TripleCocycle of both sides. -/
import Derived.Test.YthjlpgaoemdmkaaCB2
import Derived.Test.YthjlpgaoemdmkaaNG3
namespace Go.Proofs.Ythjlpgaoemdmkaa
open Go Go.RowKit Grp
set_option linter.unusedSimpArgs false
set_option linter.unusedVariables false
set_option maxRecDepth 100000

/-- A cochain of the reference under construction: its struct in block g, the result's slot r, its orders before S, its cube from S on. -/
structure SBy (w : World) (r S g : Nat) (vo : Value) (os : List Int) (M : Int) (vv : Value) (xs : Tb) (wr : World) : Prop where
  res : Blk wr r 25 #[.slice none 0 0, .int .i64 0, .slice none 0 0]
  out : Blk wr g 25 #[vo, .int .i64 M, vv]
  ords : E1 wr vo os (fun b => r < b ∧ b < S)
  vals : E3 wr vv xs (fun b => S ≤ b ∧ b < g)
  lo : w.heap.size ≤ r
  rS : r < S
  Sg : S ≤ g
  below : Below w.heap.size w wr
section
variable {w wr w' : World} {r S g : Nat} {vo : Value} {os : List Int} {M : Int} {vv : Value} {xs ys : Tb}
theorem SBy.bel (h : SBy w r S g vo os M vv xs wr) (hb : Below wr.heap.size wr w') : SBy w r S g vo os M vv xs w' :=
  ⟨h.res.all hb, h.out.all hb, E1.below h.ords hb, E3.below h.vals hb, h.lo, h.rS, h.Sg, h.below.trans (hb.mono h.below.size)⟩
theorem SBy.step (h : SBy w r S g vo os M vv xs wr) (hb : Below wr.heap.size wr w') {g2 z : Nat} {u : Value} (hE : E3 (w'.setCell ⟨g2, z, none⟩ u) vv ys (fun b => S ≤ b ∧ b < g)) (hg : S ≤ g2 ∧ g2 < g) : SBy w r S g vo os M vv ys (w'.setCell ⟨g2, z, none⟩ u) := by
  have h' := h.bel hb
  have hw : Wr w' (w'.setCell ⟨g2, z, none⟩ u) (fun b => b = g2) := ⟨rfl, rfl, rfl, by simp [World.setCell], fun b _ hn => Below.heap_setCell _ ⟨g2, z, none⟩ _ b (fun e => hn e)⟩
  have := h.rS
  have := h.lo
  exact ⟨hw.blk h'.res (by omega), hw.blk h'.out (by omega), E1.wr' h'.ords hw (fun b h1 h2 => by have := h1.2; omega), hE, h.lo, h.rS, h.Sg, h'.below.setCell (by simp; omega) _⟩
theorem SBy.fin (h : SBy w r S g vo os M vv xs wr) (hM : i64ok M) : ∃ v, (.returned (.agg #[vo, .int .i64 M, vv]) : Ending) = .returned v ∧ cocycle_E (put3 wr r vo (.int .i64 M) vv) v (os, M, xs) (fun b => w.heap.size ≤ b ∧ b < (put3 wr r vo (.int .i64 M) vv).heap.size) ∧ Below w.heap.size w (put3 wr r vo (.int .i64 M) vv) := by
  have hw : Wr wr (put3 wr r vo (.int .i64 M) vv) (fun b => b = r) := ⟨rfl, rfl, rfl, by rw [put3_size]; exact Nat.le_refl _, fun b _ hn => by
    unfold put3
    have hne : ∀ i, b ≠ (⟨r, i, none⟩ : Addr).block := fun i e => hn e
    rw [Below.heap_setCell _ ⟨r, 2, none⟩ _ b (hne 2), Below.heap_setCell _ ⟨r, 1, none⟩ _ b (hne 1), Below.heap_setCell _ ⟨r, 0, none⟩ _ b (hne 0)]⟩
  have hlo := h.lo
  have hrS := h.rS
  have hSg := h.Sg
  have hgl := h.out.lt
  refine ⟨_, rfl, ⟨hM, _, _, _, _, rfl, E1.wr' h.ords hw (fun b h1 h2 => by have := h1.1; omega), E3.wr' h.vals hw (fun b h1 h2 => by have := h1.1; omega), fun b h1 h2 => by have := h1.2; have := h2.1; omega, fun b hb => ?_, fun b hb => ?_, fun b hb => hb.2⟩, put3_below h.below h.lo⟩
  · have := hb.1; have := hb.2; rw [put3_size]; omega
  · have := hb.1; have := hb.2; rw [put3_size]; omega
end
theorem cocycle_put {w W w1 : World} {v : Value} {x : cocycle_T} {r : Nat} {a b' c : Value} (he : cocycle_E w1 v x (fun b => W.heap.size ≤ b ∧ b < w1.heap.size)) (hb : Below w.heap.size w w1) (hr : r < W.heap.size) (hw : w.heap.size ≤ r) :
    cocycle_E (put3 w1 r a b' c) v x (fun b => w.heap.size ≤ b ∧ b < (put3 w1 r a b' c).heap.size) := by
  have hwr : Wr w1 (put3 w1 r a b' c) (fun b => b = r) := ⟨rfl, rfl, rfl, by rw [put3_size]; exact Nat.le_refl _, fun b _ hn => by
    unfold put3
    have hne : ∀ i, b ≠ (⟨r, i, none⟩ : Addr).block := fun i e => hn e
    rw [Below.heap_setCell _ ⟨r, 2, none⟩ _ b (hne 2), Below.heap_setCell _ ⟨r, 1, none⟩ _ b (hne 1), Below.heap_setCell _ ⟨r, 0, none⟩ _ b (hne 0)]⟩
  exact cocycle_mono (cocycle_wr he hwr fun b h1 h2 => by have := h1.1; omega) (fun b hb => ⟨by have := hb.1; omega, by rw [put3_size]; exact hb.2⟩) (fun b hb => hb.2)
def tri (x y z : Nat) : Int := (x : Int) / 4 * ((y : Int) / 2 % 2) * ((z : Int) % 2)
theorem tri_rng (x y z : Nat) (hx : x < 8) : 0 ≤ tri x y z ∧ tri x y z ≤ 1 := by
  unfold tri
  have a : (x : Int) / 4 = 0 ∨ (x : Int) / 4 = 1 := by omega
  have b : (y : Int) / 2 % 2 = 0 ∨ (y : Int) / 2 % 2 = 1 := by omega
  have c : (z : Int) % 2 = 0 ∨ (z : Int) % 2 = 1 := by omega
  rcases a with a | a <;> rcases b with b | b <;> rcases c with c | c <;> rw [a, b, c] <;> decide
theorem triple_ok : OkH [2, 2, 2] := ⟨by decide, by decide, by decide, by decide⟩
def triC : cocycle_T := ([2, 2, 2], 2, cub 8 tri)
set_option maxHeartbeats 8000000 in
theorem specTriple_c (w : World) : Calls Try.prog 13 #[] w (MkE cocycle_E w triC) := by
  go_enter Try.func13, Try.ntmps13
  go_wp2_with fail
  obtain ⟨W, hW⟩ : ∃ W, (w.alloc (.cells #[.slice none 0 0, .int .i64 0, .slice none 0 0] 25)).alloc (.cells #[.int .i64 2, .int .i64 2, .int .i64 2] 2) = W := ⟨_, rfl⟩
  have hb0 : Below w.heap.size w W := by rw [← hW]; exact (by repeat (first | assumption | exact Below.refl _ _ | apply below_drewN | apply Below.drew | apply Below.alloc | apply Below.setCell | omega | (focus (simp; done)) | (focus (simp; omega))))
  have br : Blk W w.heap.size 25 #[.slice none 0 0, .int .i64 0, .slice none 0 0] := by rw [← hW]; exact (Blk.new _ _ _).alloc _
  have ho : E1 W (.slice (some ⟨w.heap.size + 1, 0, none⟩) 3 3) [2, 2, 2] (fun b => w.heap.size < b ∧ b < W.heap.size) := by
    have h1 : Ow W (w.heap.size + 1) (.slice (some ⟨w.heap.size + 1, 0, none⟩) 3 3) [2, 2, 2] := by rw [← hW]; exact Ow.made' (xs := [2, 2, 2]) _ _ (w.heap.size + 1) 3 (by simp) rfl (Nat.le_refl _) rfl (by unfold maxLen; omega)
    exact (E1.of_ow h1 (by unfold i64ok; simp)).mono (fun b hb => ⟨by have := hb.1; omega, hb.2⟩) (fun b hb => hb.2)
  have hsz : w.heap.size < W.heap.size := by rw [← hW]; simp; omega
  rw [hW]
  clear hW
  refine (l06Empty_any W 8 (by omega)).mono ?_
  rintro e w1 ⟨vv, rfl, hG, hb1⟩
  have hv := hG.toL
  obtain ⟨Av, cv, rfl⟩ := hG.val
  rw [List.length_replicate] at hv ⊢
  rw [← pc_zero (n := 8) (f := tri)] at hv
  have br1 := br.all hb1
  have ho1 := E1.below ho hb1
  have hb2 := hb0.trans (hb1.mono hb0.size)
  have hs1 := hb1.size
  obtain ⟨S, hS⟩ : ∃ S, W.heap.size = S := ⟨_, rfl⟩
  rw [hS] at hsz ho1 hv hs1
  clear hG br ho hS hb1 hb0
  go_wp2_with fail
  obtain ⟨g, hg⟩ : ∃ g, w1.heap.size = g := ⟨_, rfl⟩
  rw [hg] at hs1 hv
  obtain ⟨w2, hw2⟩ : ∃ w2, w1.alloc (.cells #[.slice (some ⟨w.heap.size + 1, 0, none⟩) 3 3, .int .i64 2, .slice Av 8 cv] 25) = w2 := ⟨_, rfl⟩
  have hb2a : Below w1.heap.size w1 w2 := by rw [← hw2]; exact (Below.refl _ _).alloc (Nat.le_refl _) _
  have hS2 : SBy w w.heap.size S g (.slice (some ⟨w.heap.size + 1, 0, none⟩) 3 3) [2, 2, 2] 2 (.slice Av 8 cv) (pc 8 tri 0 0 0) w2 := by
    refine ⟨br1.all hb2a, by rw [← hw2]; exact Blk.new' _ _ _ _ hg, E1.below ho1 hb2a, E3.below hv hb2a, Nat.le_refl _, hsz, hs1, hb2.trans (hb2a.mono hb2.size)⟩
  try rw [hg]
  rw [hw2]
  clear hw2 br1 ho1 hv hb2 hb2a hg
  go_loopw [2] (fun i wr => ∃ x : Nat, x ≤ 8 ∧ i = .int .i64 x ∧ SBy w w.heap.size S g (.slice (some ⟨w.heap.size + 1, 0, none⟩) 3 3) [2, 2, 2] 2 (.slice Av 8 cv) (pc 8 tri x 0 0) wr) (fun i _ => 8 - (intOf i).toNat)
  case atStart => exact ⟨0, by omega, rfl, hS2⟩
  case round =>
    clear hS2
    obtain ⟨x, hx, rfl, hS⟩ := hrel
    by_cases hlx : x < 8
    · go_wp2_with fail
      go_loopw [3] (fun i wr => ∃ y : Nat, y ≤ 8 ∧ i = .int .i64 y ∧ SBy w w.heap.size S g (.slice (some ⟨w.heap.size + 1, 0, none⟩) 3 3) [2, 2, 2] 2 (.slice Av 8 cv) (pc 8 tri x y 0) wr) (fun i _ => 8 - (intOf i).toNat)
      case atStart => exact ⟨0, by omega, rfl, hS⟩
      case round =>
        clear hS
        obtain ⟨y, hy, rfl, hS⟩ := hrel
        by_cases hly : y < 8
        · go_wp2_with fail
          go_loopw [4] (fun i wr => ∃ z : Nat, z ≤ 8 ∧ i = .int .i64 z ∧ SBy w w.heap.size S g (.slice (some ⟨w.heap.size + 1, 0, none⟩) 3 3) [2, 2, 2] 2 (.slice Av 8 cv) (pc 8 tri x y z) wr) (fun i _ => 8 - (intOf i).toNat)
          case atStart => exact ⟨0, by omega, rfl, hS⟩
          case round =>
            clear hS
            obtain ⟨z, hz, rfl, hS⟩ := hrel
            by_cases hlz : z < 8
            · have ht := tri_rng x y z hlx
              obtain ⟨gv, g1, g2, cv', c1, c2, ev, k0, k1, k2, x0, x1, ⟨u, x2⟩, x3, x4, HL⟩ := E3.later hS.vals hlx hly hlz ⟨by omega, by omega⟩
              injection ev with ev1 _ ev2
              subst ev1
              subst ev2
              have HN := hide (hS.step (Below.refl _ _) (HL wr (Below.refl _ _)) x4)
              have y2 := hS.out.cell 2
              have e0 : ((x : Int)).tdiv 4 = x / 4 := Int.tdiv_eq_ediv_of_nonneg (by omega)
              have hT : tri x y z = (x : Int) / 4 * ((y : Int) / 2 % 2) * ((z : Int) % 2) := rfl
              rw [hT] at HN ht
              have m1 : (x : Int) / 4 = 0 ∨ (x : Int) / 4 = 1 := by omega
              have m2 : (y : Int) / 2 % 2 = 0 ∨ (y : Int) / 2 % 2 = 1 := by omega
              have m3 : (x : Int) / 4 * ((y : Int) / 2 % 2) = 0 ∨ (x : Int) / 4 * ((y : Int) / 2 % 2) = 1 := by rcases m1 with a | a <;> rcases m2 with b | b <;> rw [a, b] <;> simp
              have w1' : IntKind.i64.wrap ((x : Int) / 4 * ((y : Int) / 2 % 2)) = (x : Int) / 4 * ((y : Int) / 2 % 2) := wr64 _ ⟨by omega, by omega⟩
              have w2' : IntKind.i64.wrap ((x : Int) / 4 * ((y : Int) / 2 % 2) * ((z : Int) % 2)) = (x : Int) / 4 * ((y : Int) / 2 % 2) * ((z : Int) % 2) := wr64 _ ⟨by omega, by omega⟩
              clear HL m1 m2 m3 hT
              go_wp2_with fail
              go_roundw
              case rel => exact ⟨z + 1, by omega, by go_num, HN.out⟩
              case measure => simp [intOf] <;> omega
            · obtain rfl : z = 8 := by omega
              have h9 := hS
              rw [pc_nextz] at h9
              go_wp2_with fail
              go_roundw
              case rel => exact ⟨y + 1, by omega, by go_num, h9⟩
              case measure => simp [intOf] <;> omega
        · obtain rfl : y = 8 := by omega
          have h9 := hS
          rw [pc_nexty] at h9
          go_wp2_with fail
          go_roundw
          case rel => exact ⟨x + 1, by omega, by go_num, h9⟩
          case measure => simp [intOf] <;> omega
    · obtain rfl : x = 8 := by omega
      have h9 := hS
      rw [pc_all] at h9
      have x0 := h9.out.cell 0
      have x1 := h9.out.cell 1
      have x2 := h9.out.cell 2
      have g0 := h9.res.frozen 0
      have g1 := h9.res.frozen 1
      have g2 := h9.res.frozen 2
      have y0 := h9.res.cell 0
      have y1 := h9.res.cell 1
      have y2 := h9.res.cell 2
      have hb3 := put3_blk (x := .slice (some ⟨w.heap.size + 1, 0, none⟩) 3 3) (y := .int .i64 2) (z := .slice Av 8 cv) h9.res
      have q0 := hb3.cell 0
      have q1 := hb3.cell 1
      have q2 := hb3.cell 2
      unfold put3 at q0 q1 q2
      go_wp2_with fail
      refine bodyPost_ret (v := .agg #[.slice (some ⟨w.heap.size + 1, 0, none⟩) 3 3, .int .i64 2, .slice Av 8 cv]) (by simp [results, Try.results13, go_sem, q0, q1, q2]) rfl ?_
      exact h9.fin ⟨by omega, by omega⟩

theorem tripleF_any (w : World) (x y z : Nat) (hx : x < 8) (hy : y < 8) (hz : z < 8) : Calls Try.prog 51 #[.int .i64 x, .int .i64 y, .int .i64 z] w (Re w (.int .i64 (tri x y z))) := by
  have m1 : (x : Int) / 4 = 0 ∨ (x : Int) / 4 = 1 := by omega
  have m2 : (y : Int) / 2 % 2 = 0 ∨ (y : Int) / 2 % 2 = 1 := by omega
  have m3 : (x : Int) / 4 * ((y : Int) / 2 % 2) = 0 ∨ (x : Int) / 4 * ((y : Int) / 2 % 2) = 1 := by rcases m1 with a | a <;> rcases m2 with b | b <;> rw [a, b] <;> simp
  have ht := tri_rng x y z hx
  have hT : tri x y z = (x : Int) / 4 * ((y : Int) / 2 % 2) * ((z : Int) % 2) := rfl
  rw [hT] at ht ⊢
  have w1' : IntKind.i64.wrap ((x : Int) / 4 * ((y : Int) / 2 % 2)) = (x : Int) / 4 * ((y : Int) / 2 % 2) := wr64 _ ⟨by omega, by omega⟩
  have w2' : IntKind.i64.wrap ((x : Int) / 4 * ((y : Int) / 2 % 2) * ((z : Int) % 2)) = (x : Int) / 4 * ((y : Int) / 2 % 2) * ((z : Int) % 2) := wr64 _ ⟨by omega, by omega⟩
  clear m1 m2 m3 hT
  go_enter Try.func51, Try.ntmps51
  go_wp2_with fail
  go_ret
  exact ⟨rfl, Below.refl _ _⟩
theorem triM_eq : (([2, 2, 2], 2, cub (prodL [2, 2, 2]).toNat fun x y z => tri x y z % 2) : cocycle_T) = triC := by
  have h : cub 8 (fun x y z => tri x y z % 2) = cub 8 tri := cub_congr fun x y z hx _ _ => by
    have := tri_rng x y z hx
    exact Int.emod_eq_of_lt (by omega) (by omega)
  unfold triC
  rw [show (prodL [2, 2, 2]).toNat = 8 by decide, h]
set_option maxHeartbeats 4000000 in
theorem implTriple_c (w : World) : Calls Try.prog 14 #[] w (MkE cocycle_E w triC) := by
  go_enter Try.func14, Try.ntmps14
  go_wp2_with fail
  obtain ⟨W, hW⟩ : ∃ W, (w.alloc (.cells #[.slice none 0 0, .int .i64 0, .slice none 0 0] 25)).alloc (.cells #[.int .i64 2, .int .i64 2, .int .i64 2] 2) = W := ⟨_, rfl⟩
  have hb0 : Below w.heap.size w W := by rw [← hW]; exact (by repeat (first | assumption | exact Below.refl _ _ | apply below_drewN | apply Below.drew | apply Below.alloc | apply Below.setCell | omega | (focus (simp; done)) | (focus (simp; omega))))
  have br : Blk W w.heap.size 25 #[.slice none 0 0, .int .i64 0, .slice none 0 0] := by rw [← hW]; exact (Blk.new _ _ _).alloc _
  have ho : Sl W W.heap.size (some ⟨w.heap.size + 1, 0, none⟩) 3 3 [2, 2, 2] := by
    have h1 : Ow W (w.heap.size + 1) (.slice (some ⟨w.heap.size + 1, 0, none⟩) 3 3) [2, 2, 2] := by rw [← hW]; exact Ow.made' (xs := [2, 2, 2]) _ _ (w.heap.size + 1) 3 (by simp) rfl (Nat.le_refl _) rfl (by unfold maxLen; omega)
    obtain ⟨A, c, e, hs⟩ := h1.sl (by unfold i64ok; simp)
    cases e
    exact hs
  have hsz : w.heap.size < W.heap.size := by rw [← hW]; simp; omega
  rw [hW]
  clear hW
  refine (cby_triple W _ 3 3 [2, 2, 2] 2 tri ho (by omega) triple_ok (by decide) (by omega) (by omega) (fun x y z hx hy hz wd _ => tripleF_any wd x y z hx hy hz)).mono ?_
  rw [triM_eq]
  rintro e w1 ⟨v, rfl, he, hb1⟩
  obtain ⟨A1, n1, c1, z1, D1, m1, e1, rfl, hz1⟩ := cocycle_form (cocycle_rd he)
  have br1 := br.all hb1
  have hbw := hb0.trans (hb1.mono hb0.size)
  have g0 := br1.frozen 0
  have g1 := br1.frozen 1
  have g2 := br1.frozen 2
  have y0 := br1.cell 0
  have y1 := br1.cell 1
  have y2 := br1.cell 2
  have hb3 := put3_blk (x := .slice A1 n1 c1) (y := .int .i64 z1) (z := .slice D1 m1 e1) br1
  have q0 := hb3.cell 0
  have q1 := hb3.cell 1
  have q2 := hb3.cell 2
  unfold put3 at q0 q1 q2
  go_wp2_with fail
  refine bodyPost_ret (v := .agg #[.slice A1 n1 c1, .int .i64 z1, .slice D1 m1 e1]) (by simp [results, Try.results14, go_sem, q0, q1, q2]) rfl ?_
  exact ⟨_, rfl, cocycle_put he hbw (by omega) (Nat.le_refl _), put3_below hbw (Nat.le_refl _)⟩
set_option maxHeartbeats 8000000 in
set_option maxRecDepth 100000 in
theorem law_TripleCocycle {w : World}  : Calls Try.prog 3 #[] w (Re w (.bool true)) := by
  obtain ⟨y0, hy0⟩ : ∃ y : cocycle_T, triC = y := ⟨_, rfl⟩
  have HY0 := hide hy0
  clear hy0
  have SY0 : cocycle_tot y0 ≤ 1048576 := by rw [← HY0.out]; exact (by decide)
  have SY := cocycle_sh SY0
  have SY2 := cocycle_sumle y0
  go_enter Try.func3, Try.ntmps3
  go_wp2_with fail
  have kw := Below.refl w.heap.size w
  have hcl := (specTriple_c w)
  rw [HY0.out] at hcl
  have HCL := hide hcl
  clear hcl
  refine HCL.out.mono ?_
  rintro e t1 ⟨u, rfl, he, hb⟩
  clear HCL
  obtain ⟨Aw, nw, cw, zw, Dw, mw, ew, rfl, hf⟩ := cocycle_form (cocycle_rd he)
  clear hf
  replace kw := kw.trans (hb.mono kw.size)
  clear hb
  have Kt1 := kw.size
  have Zt1 := Nat.le_refl t1.heap.size
  have Rw := cocycle_rd he
  clear he
  obtain ⟨Xw, hXw⟩ : ∃ X, t1.heap.size = X := ⟨_, rfl⟩
  go_wp2_with fail
  obtain ⟨t2, ht2⟩ : ∃ w5, t1.alloc (.cells #[.slice Aw nw cw, .int .i64 zw, .slice Dw mw ew] 25) = w5 := ⟨_, rfl⟩
  have hb : Below t1.heap.size t1 t2 := by rw [← ht2]; exact (Below.refl _ _).alloc (Nat.le_refl _) _
  have bw : Blk t2 Xw 25 #[.slice Aw nw cw, .int .i64 zw, .slice Dw mw ew] := by rw [← ht2]; exact Blk.new' _ _ _ _ hXw
  rw [ht2]
  clear ht2
  replace kw := kw.trans (hb.mono kw.size)
  replace Rw := cocycle_keep Rw (hb.mono Zt1) (Nat.le_refl _)
  replace Zt1 := Nat.le_trans Zt1 hb.size
  clear hb
  have Ot1t2 := Zt1
  have Gbwt2 := bw.lt
  have Kt2 := kw.size
  have Zt2 := Nat.le_refl t2.heap.size
  have hcl := (implTriple_c t2)
  rw [HY0.out] at hcl
  have HCL := hide hcl
  clear hcl
  refine HCL.out.mono ?_
  rintro e t3 ⟨u, rfl, he, hb⟩
  clear HCL
  obtain ⟨Ag, ng, cg, zg, Dg, mg, eg, rfl, hf⟩ := cocycle_form (cocycle_rd he)
  clear hf
  replace kw := kw.trans (hb.mono kw.size)
  replace bw := bw.all hb
  replace Rw := cocycle_keep Rw (hb.mono Zt1) (Nat.le_refl _)
  replace Zt1 := Nat.le_trans Zt1 hb.size
  replace Zt2 := Nat.le_trans Zt2 hb.size
  clear hb
  have Eg := he
  clear he
  have Ot1t3 := Zt1
  have Ot2t3 := Zt2
  have Gbwt3 := bw.lt
  have Kt3 := kw.size
  have Zt3 := Nat.le_refl t3.heap.size
  obtain ⟨Xg, hXg⟩ : ∃ X, t3.heap.size = X := ⟨_, rfl⟩
  have bwl2 : Xw < Xg := by have := bw.lt; omega
  have bwc0 := bw.cell 0
  have bwc1 := bw.cell 1
  have bwc2 := bw.cell 2
  have bwlt := bw.lt
  go_wp2_with fail
  clear bwc0 bwc1 bwc2 bwlt
  clear bwl2
  obtain ⟨t4, ht4⟩ : ∃ w5, t3.alloc (.cells #[.slice Ag ng cg, .int .i64 zg, .slice Dg mg eg] 25) = w5 := ⟨_, rfl⟩
  have hb : Below t3.heap.size t3 t4 := by rw [← ht4]; exact (Below.refl _ _).alloc (Nat.le_refl _) _
  have bg : Blk t4 Xg 25 #[.slice Ag ng cg, .int .i64 zg, .slice Dg mg eg] := by rw [← ht4]; exact Blk.new' _ _ _ _ hXg
  rw [ht4]
  clear ht4
  replace kw := kw.trans (hb.mono kw.size)
  replace bw := bw.all hb
  replace Eg := cocycle_below Eg hb
  replace Rw := cocycle_keep Rw (hb.mono Zt1) (Nat.le_refl _)
  replace Zt1 := Nat.le_trans Zt1 hb.size
  replace Zt2 := Nat.le_trans Zt2 hb.size
  replace Zt3 := Nat.le_trans Zt3 hb.size
  clear hb
  have Ot1t4 := Zt1
  have Ot2t4 := Zt2
  have Ot3t4 := Zt3
  have Gbwt4 := bw.lt
  have Gbgt4 := bg.lt
  have Kt4 := kw.size
  have Zt4 := Nat.le_refl t4.heap.size
  refine (cocycle_eq _ _ _ y0 y0 (cocycle_rd Eg) (cocycle_keep Rw (Below.refl _ _) Zt1) SY).mono ?_
  rintro e t5 ⟨rfl, hb⟩
  simp only [beq_self_eq_true]
  replace kw := kw.trans (hb.mono kw.size)
  replace bw := bw.all hb
  replace bg := bg.all hb
  replace Eg := cocycle_below Eg hb
  replace Rw := cocycle_keep Rw (hb.mono Zt1) (Nat.le_refl _)
  replace Zt1 := Nat.le_trans Zt1 hb.size
  replace Zt2 := Nat.le_trans Zt2 hb.size
  replace Zt3 := Nat.le_trans Zt3 hb.size
  replace Zt4 := Nat.le_trans Zt4 hb.size
  clear hb
  have bwc0 := bw.cell 0
  have bwc1 := bw.cell 1
  have bwc2 := bw.cell 2
  have bgc0 := bg.cell 0
  have bgc1 := bg.cell 1
  have bgc2 := bg.cell 2
  have bwlt := bw.lt
  have bglt := bg.lt
  go_wp2_with fail
  clear bwc0 bwc1 bwc2 bgc0 bgc1 bgc2 bwlt bglt
  refine (cocycle_mark _ _ y0 _ 1 Eg (by omega) (by omega) (by omega)).mono ?_
  rintro e t6 ⟨rfl, he, hw⟩
  have hbb := hw.below (B := t2.heap.size) (fun b hf => hf.1) Zt2
  replace kw := kw.trans (hbb.mono Kt2)
  replace bw := hw.blk bw (fun hf => by have a1 := hf.1; have a2 := hf.2; omega)
  replace bg := hw.blk bg (fun hf => by have a1 := hf.1; have a2 := hf.2; omega)
  replace Rw := cocycle_keep Rw (hbb.mono (by omega)) (Nat.le_refl _)
  replace Zt1 := Nat.le_trans Zt1 hw.size
  replace Zt2 := Nat.le_trans Zt2 hw.size
  replace Zt3 := Nat.le_trans Zt3 hw.size
  replace Zt4 := Nat.le_trans Zt4 hw.size
  replace Eg := he
  clear hbb hw he
  obtain ⟨mm, hmm, hmma, hmmb⟩ : ∃ z : Int, 1 + (cocycle_sum y0 : Int) = z ∧ 0 ≤ z ∧ z ≤ 4000000 := ⟨_, rfl, by omega, by omega⟩
  rw [hmm]
  have Hmm := hide hmm
  clear hmm
  have bwc0 := bw.cell 0
  have bwc1 := bw.cell 1
  have bwc2 := bw.cell 2
  have bgc0 := bg.cell 0
  have bgc1 := bg.cell 1
  have bgc2 := bg.cell 2
  have bwlt := bw.lt
  have bglt := bg.lt
  go_wp2_with fail
  clear bwc0 bwc1 bwc2 bgc0 bgc1 bgc2 bwlt bglt
  refine (cocycle_heldc _ _ _ 1 (cocycle_rd Eg) (cocycle_shmk SY) (by omega) (by omega)).mono ?_
  rw [cocycle_heldmk1, Hmm.out]
  rintro e t7 ⟨rfl, hb⟩
  replace kw := kw.trans (hb.mono kw.size)
  replace bw := bw.all hb
  replace bg := bg.all hb
  replace Eg := cocycle_below Eg hb
  replace Rw := cocycle_keep Rw (hb.mono Zt1) (Nat.le_refl _)
  replace Zt1 := Nat.le_trans Zt1 hb.size
  replace Zt2 := Nat.le_trans Zt2 hb.size
  replace Zt3 := Nat.le_trans Zt3 hb.size
  replace Zt4 := Nat.le_trans Zt4 hb.size
  clear hb
  have bwc0 := bw.cell 0
  have bwc1 := bw.cell 1
  have bwc2 := bw.cell 2
  have bgc0 := bg.cell 0
  have bgc1 := bg.cell 1
  have bgc2 := bg.cell 2
  have bwlt := bw.lt
  have bglt := bg.lt
  go_wp2_with fail
  clear bwc0 bwc1 bwc2 bgc0 bgc1 bgc2 bwlt bglt
  have hcl := (implTriple_c t7)
  rw [HY0.out] at hcl
  have HCL := hide hcl
  clear hcl
  refine HCL.out.mono ?_
  rintro e t8 ⟨u, rfl, he, hb⟩
  clear HCL
  obtain ⟨Ah, nh, ch, zh, Dh, mh, eh, rfl, hf⟩ := cocycle_form (cocycle_rd he)
  clear hf
  replace kw := kw.trans (hb.mono kw.size)
  replace bw := bw.all hb
  replace bg := bg.all hb
  replace Eg := cocycle_below Eg hb
  replace Rw := cocycle_keep Rw (hb.mono Zt1) (Nat.le_refl _)
  replace Zt1 := Nat.le_trans Zt1 hb.size
  replace Zt2 := Nat.le_trans Zt2 hb.size
  replace Zt3 := Nat.le_trans Zt3 hb.size
  replace Zt4 := Nat.le_trans Zt4 hb.size
  clear hb
  have Eh := he
  clear he
  obtain ⟨Xh, hXh⟩ : ∃ X, t8.heap.size = X := ⟨_, rfl⟩
  have Ot1t8 := Zt1
  have Ot2t8 := Zt2
  have Ot3t8 := Zt3
  have Ot4t8 := Zt4
  have Gbwt8 := bw.lt
  have Gbgt8 := bg.lt
  have Kt8 := kw.size
  have Zt8 := Nat.le_refl t8.heap.size
  have bwl2 : Xw < Xh := by have := bw.lt; omega
  have bgl2 : Xg < Xh := by have := bg.lt; omega
  have bwc0 := bw.cell 0
  have bwc1 := bw.cell 1
  have bwc2 := bw.cell 2
  have bgc0 := bg.cell 0
  have bgc1 := bg.cell 1
  have bgc2 := bg.cell 2
  have bwlt := bw.lt
  have bglt := bg.lt
  go_wp2_with fail
  clear bwc0 bwc1 bwc2 bgc0 bgc1 bgc2 bwlt bglt
  clear bwl2 bgl2
  obtain ⟨t9, ht9⟩ : ∃ w5, t8.alloc (.cells #[.slice Ah nh ch, .int .i64 zh, .slice Dh mh eh] 25) = w5 := ⟨_, rfl⟩
  have hb : Below t8.heap.size t8 t9 := by rw [← ht9]; exact (Below.refl _ _).alloc (Nat.le_refl _) _
  have bh : Blk t9 Xh 25 #[.slice Ah nh ch, .int .i64 zh, .slice Dh mh eh] := by rw [← ht9]; exact Blk.new' _ _ _ _ hXh
  rw [ht9]
  clear ht9
  replace kw := kw.trans (hb.mono kw.size)
  replace bw := bw.all hb
  replace bg := bg.all hb
  replace Eg := cocycle_below Eg hb
  replace Eh := cocycle_below Eh hb
  replace Rw := cocycle_keep Rw (hb.mono Zt1) (Nat.le_refl _)
  replace Zt1 := Nat.le_trans Zt1 hb.size
  replace Zt2 := Nat.le_trans Zt2 hb.size
  replace Zt3 := Nat.le_trans Zt3 hb.size
  replace Zt4 := Nat.le_trans Zt4 hb.size
  replace Zt8 := Nat.le_trans Zt8 hb.size
  clear hb
  have Ot1t9 := Zt1
  have Ot2t9 := Zt2
  have Ot3t9 := Zt3
  have Ot4t9 := Zt4
  have Ot8t9 := Zt8
  have Gbwt9 := bw.lt
  have Gbgt9 := bg.lt
  have Gbht9 := bh.lt
  have Kt9 := kw.size
  have Zt9 := Nat.le_refl t9.heap.size
  refine (cocycle_eq _ _ _ y0 y0 (cocycle_rd Eh) (cocycle_keep Rw (Below.refl _ _) Zt1) SY).mono ?_
  rintro e t10 ⟨rfl, hb⟩
  simp only [beq_self_eq_true]
  replace kw := kw.trans (hb.mono kw.size)
  replace bw := bw.all hb
  replace bg := bg.all hb
  replace bh := bh.all hb
  replace Eg := cocycle_below Eg hb
  replace Eh := cocycle_below Eh hb
  replace Rw := cocycle_keep Rw (hb.mono Zt1) (Nat.le_refl _)
  replace Zt1 := Nat.le_trans Zt1 hb.size
  replace Zt2 := Nat.le_trans Zt2 hb.size
  replace Zt3 := Nat.le_trans Zt3 hb.size
  replace Zt4 := Nat.le_trans Zt4 hb.size
  replace Zt8 := Nat.le_trans Zt8 hb.size
  replace Zt9 := Nat.le_trans Zt9 hb.size
  clear hb
  have bwc0 := bw.cell 0
  have bwc1 := bw.cell 1
  have bwc2 := bw.cell 2
  have bgc0 := bg.cell 0
  have bgc1 := bg.cell 1
  have bgc2 := bg.cell 2
  have bhc0 := bh.cell 0
  have bhc1 := bh.cell 1
  have bhc2 := bh.cell 2
  have bwlt := bw.lt
  have bglt := bg.lt
  have bhlt := bh.lt
  go_wp2_with fail
  clear bwc0 bwc1 bwc2 bgc0 bgc1 bgc2 bhc0 bhc1 bhc2 bwlt bglt bhlt
  refine (cocycle_heldc _ _ _ 1 (cocycle_rd Eg) (cocycle_shmk SY) (by omega) (by omega)).mono ?_
  rw [cocycle_heldmk1, Hmm.out]
  rintro e t11 ⟨rfl, hb⟩
  replace kw := kw.trans (hb.mono kw.size)
  replace bw := bw.all hb
  replace bg := bg.all hb
  replace bh := bh.all hb
  replace Eg := cocycle_below Eg hb
  replace Eh := cocycle_below Eh hb
  replace Rw := cocycle_keep Rw (hb.mono Zt1) (Nat.le_refl _)
  replace Zt1 := Nat.le_trans Zt1 hb.size
  replace Zt2 := Nat.le_trans Zt2 hb.size
  replace Zt3 := Nat.le_trans Zt3 hb.size
  replace Zt4 := Nat.le_trans Zt4 hb.size
  replace Zt8 := Nat.le_trans Zt8 hb.size
  replace Zt9 := Nat.le_trans Zt9 hb.size
  clear hb
  go_wp2_with fail
  go_ret
  exact ⟨rfl, kw⟩
end Go.Proofs.Ythjlpgaoemdmkaa
