
/- The kind of a cocycle: a struct of orders, a modulus and a cube. -/
import Derived.Test.YthjlpgaoemdmkaaKD0
import Derived.Test.YthjlpgaoemdmkaaNW2
import Derived.Test.YthjlpgaoemdmkaaOpN
namespace Go.Proofs.Ythjlpgaoemdmkaa
open Go Go.RowKit
set_option linter.unusedSimpArgs false
set_option linter.unusedVariables false
set_option maxRecDepth 100000
abbrev cocycle_T := List Int × Int × List (List (List Int))
def cocycle_R (w : World) (B : Nat) (v : Value) (x : cocycle_T) : Prop := ∃ A n c D m e, v = .agg #[.slice A n c, .int .i64 x.2.1, .slice D m e] ∧ Sl w B A n c x.1 ∧ Sl3 w B D m e x.2.2 ∧ i64ok x.2.1
def cocycle_E : Own cocycle_T := fun w v x fp => i64ok x.2.1 ∧ ∃ u1 u2 F1 F2, v = .agg #[u1, .int .i64 x.2.1, u2] ∧ E1 w u1 x.1 F1 ∧ E3 w u2 x.2.2 F2 ∧ (∀ b, F1 b → F2 b → False) ∧ (∀ b, F1 b → fp b) ∧ (∀ b, F2 b → fp b) ∧ (∀ b, fp b → b < w.heap.size)
def cocycle_Big (x : cocycle_T) : Prop := x.1.length ≤ 9223372036854775807 ∧ Big3 x.2.2
def cocycle_Sh (x : cocycle_T) : Prop := x.1.length + tot3 x.2.2 ≤ 1048576
def cocycle_tot (x : cocycle_T) : Nat := x.1.length + tot3 x.2.2
def cocycle_sum (x : cocycle_T) : Nat := x.1.length + sum3 x.2.2
def cocycle_mk (q : Int) (x : cocycle_T) : cocycle_T := (mark1 q x.1, x.2.1, mark3 (q + x.1.length) x.2.2)
def cocycle_held (q : Int) (x : cocycle_T) : Int := if heldI q x.1 < 0 then -1 else held3 (heldI q x.1) x.2.2
theorem sh3_of {t : List (List (List Int))} (h : tot3 t ≤ 1048576) : t.length ≤ 1048576 ∧ ∀ xs ∈ t, xs.length ≤ 1048576 ∧ ∀ ys ∈ xs, ys.length ≤ 1048576 := by
  unfold tot3 at h
  refine ⟨by unfold totL at h; omega, fun xs hx => ?_⟩
  have h1 := totL_mem (f := tot2) hx
  have h2 : totL List.length xs ≤ 1048576 := Nat.le_trans h1 h
  refine ⟨by unfold totL at h2; omega, fun ys hy => ?_⟩
  have h3 := totL_mem (f := List.length) hy
  omega
theorem E3.wr' {w w' : World} {v : Value} {t : List (List (List Int))} {fp fq : Nat → Prop} (h : E3 w v t fp) (hw : Wr w w' fq) (hd : ∀ b, fp b → fq b → False) : E3 w' v t fp := kp3 _ _ _ _ _ h (fun b hb => hw.block b (OwL.bd h b hb) (hd b hb)) hw.size
theorem E1.wr' {w w' : World} {v : Value} {t : List Int} {fp fq : Nat → Prop} (h : E1 w v t fp) (hw : Wr w w' fq) (hd : ∀ b, fp b → fq b → False) : E1 w' v t fp := kp1 _ _ _ _ _ h (fun b hb => hw.block b (h.bd b hb) (hd b hb)) hw.size
section
variable {w w' : World} {B B' : Nat} {v : Value} {x : cocycle_T} {fp fq : Nat → Prop}
theorem cocycle_form (h : cocycle_R w B v x) : ∃ A n c z D m e, v = .agg #[.slice A n c, .int .i64 z, .slice D m e] ∧ x.2.1 = z := by
  obtain ⟨A, n, c, D, m, e, h1, _⟩ := h
  exact ⟨A, n, c, _, D, m, e, h1, rfl⟩
theorem cocycle_keep (h : cocycle_R w B v x) (hb : Below B w w') (hB : B ≤ B') : cocycle_R w' B' v x := by
  obtain ⟨A, n, c, D, m, e, h1, h2, h3, h4⟩ := h
  exact ⟨A, n, c, D, m, e, h1, (h2.below hb).more hB, (h3.below hb).more hB, h4⟩
theorem cocycle_rd (h : cocycle_E w v x fp) : cocycle_R w w.heap.size v x := by
  obtain ⟨h0, u1, u2, F1, F2, rfl, h1, h2, _⟩ := h
  obtain ⟨A, c, rfl, hs⟩ := h1.sl
  obtain ⟨D, e, rfl, hs'⟩ := E3.sl3 h2
  exact ⟨A, _, c, D, _, e, rfl, hs, hs', h0⟩
theorem cocycle_kp : Kp cocycle_E := by
  intro w w' v x fp h hk hs
  obtain ⟨h0, u1, u2, F1, F2, e, h1, h2, h3, h4, h5, h6⟩ := h
  exact ⟨h0, u1, u2, F1, F2, e, kp1 _ _ _ _ _ h1 (fun b hb => hk b (h4 b hb)) hs, kp3 _ _ _ _ _ h2 (fun b hb => hk b (h5 b hb)) hs, h3, h4, h5, fun b hb => Nat.lt_of_lt_of_le (h6 b hb) hs⟩
theorem cocycle_bd (h : cocycle_E w v x fp) : ∀ b, fp b → b < w.heap.size := by
  obtain ⟨_, _, _, _, _, _, _, _, _, _, _, h6⟩ := h
  exact h6
theorem cocycle_below (h : cocycle_E w v x fp) (hb : Below w.heap.size w w') : cocycle_E w' v x fp := cocycle_kp _ _ _ _ _ h (fun b hf => hb.block b (cocycle_bd h b hf)) hb.size
theorem cocycle_wr (h : cocycle_E w v x fp) (hw : Wr w w' fq) (hd : ∀ b, fp b → fq b → False) : cocycle_E w' v x fp := cocycle_kp _ _ _ _ _ h (fun b hb => hw.block b (cocycle_bd h b hb) (hd b hb)) hw.size
theorem cocycle_mono (h : cocycle_E w v x fp) (hf : ∀ b, fp b → fq b) (hb : ∀ b, fq b → b < w.heap.size) : cocycle_E w v x fq := by
  obtain ⟨h0, u1, u2, F1, F2, e, h1, h2, h3, h4, h5, h6⟩ := h
  exact ⟨h0, u1, u2, F1, F2, e, h1, h2, h3, fun b hb => hf b (h4 b hb), fun b hb => hf b (h5 b hb), hb⟩
theorem cocycle_sh (h : cocycle_tot x ≤ 1048576) : cocycle_Sh x := h
theorem cocycle_sumle (x : cocycle_T) : cocycle_sum x ≤ cocycle_tot x := by unfold cocycle_sum cocycle_tot; have := sum3_le_tot3 x.2.2; omega
theorem markL_tot {α : Type} {mk : Int → α → α} {f g : α → Nat} (h : ∀ q x, g (mk q x) = g x) (xs : List α) : ∀ q, totL g (markL mk f q xs) = totL g xs := by
  intro q
  unfold totL
  rw [markL_length]
  congr 1
  induction xs generalizing q with
  | nil => rfl
  | cons x r ih => simp only [markL, List.map_cons, List.sum_cons, h, ih]
theorem tot3_mark (q : Int) (t : List (List (List Int))) : tot3 (mark3 q t) = tot3 t := by
  refine markL_tot (fun q x => ?_) t q
  exact markL_tot (fun q x => by unfold mark1; rw [marks_length]) x q
theorem cocycle_shmk {q : Int} (h : cocycle_Sh x) : cocycle_Sh (cocycle_mk q x) := by
  unfold cocycle_Sh cocycle_mk mark1 at *
  rw [marks_length, tot3_mark]; exact h
theorem cocycle_heldmk1 : cocycle_held 1 (cocycle_mk 1 x) = 1 + (cocycle_sum x : Int) := by
  unfold cocycle_held cocycle_mk cocycle_sum
  simp only
  rw [heldI_mark1 1 x.1 (by omega), if_neg (by omega), held3_mark3 _ _ (by omega)]
  omega
end
theorem cocycle_sz (w : World) (v : Value) (x : cocycle_T) (l : Int) (h : cocycle_R w w.heap.size v x) (hb : cocycle_Big x) (hl : 0 ≤ l) (hl1 : l ≤ 1048576) : Calls Try.prog 31 #[v, .int .i64 l] w (Re w (.int .i64 (szI l (cocycle_tot x)))) := by
  obtain ⟨A, n, c, D, m, e, rfl, h1, h2, h3⟩ := h
  obtain ⟨os, z, t⟩ := x
  simp only at h1 h2 h3 ⊢
  obtain rfl := h1.len
  obtain rfl := h2.len
  have H1 := hide (fun W => szInt64S_any W A os.length c l hl hl1 hb.1)
  by_cases q1 : l - (os.length : Int) < 0
  · have hE := hide (show szI l (cocycle_tot (os, z, t)) = -1 from szI_no (by unfold cocycle_tot; simp only; omega))
    rw [szI_no q1] at H1
    clear q1
    go_enter Try.func31, Try.ntmps31
    go_wp2_with fail
    refine (H1.out _).mono ?_
    rintro e w1 ⟨rfl, d, rfl⟩
    go_wp2_with fail
    go_ret
    exact ⟨by rw [hE.out]; rfl, (by repeat (first | assumption | exact Below.refl _ _ | apply below_drewN | apply Below.drew | apply Below.alloc | apply Below.setCell | omega | (focus (simp; done)) | (focus (simp; omega))))⟩
  · rw [szI_ok q1] at H1
    obtain ⟨l2, hl2⟩ : ∃ l2, l - (os.length : Int) = l2 := ⟨_, rfl⟩
    have hl20 : 0 ≤ l2 := by omega
    have hl21 : l2 ≤ 1048576 := by omega
    have HE := hide hl2
    rw [hl2] at H1
    clear q1 hl2
    have H2 := hide (fun W (hW : Below w.heap.size w W) => szInt64SSS_any W w.heap.size D t.length e t l2 (h2.below hW) hl20 hl21 hb.2)
    have ht : totL tot2 t = tot3 t := rfl
    rw [ht] at H2
    clear ht
    by_cases q2 : l2 - (tot3 t : Int) < 0
    · have hE := hide (show szI l (cocycle_tot (os, z, t)) = -1 from szI_no (by have := HE.out; unfold cocycle_tot; simp only; omega))
      rw [szI_no q2] at H2
      clear q2
      go_enter Try.func31, Try.ntmps31
      go_wp2_with fail
      obtain ⟨W, hW⟩ : ∃ W, w.alloc (.cells #[.slice A os.length c, .int .i64 z, .slice D t.length e] 47) = W := ⟨_, rfl⟩
      have hbW : Below w.heap.size w W := by rw [← hW]; exact (by repeat (first | assumption | exact Below.refl _ _ | apply below_drewN | apply Below.drew | apply Below.alloc | apply Below.setCell | omega | (focus (simp; done)) | (focus (simp; omega))))
      have q2 : W.cell? ⟨w.heap.size, 2, none⟩ = some (.slice D t.length e) := by rw [← hW]; exact (Blk.new _ _ _).cell 2
      rw [hW]
      clear hW
      refine (H1.out _).mono ?_
      rintro e' w1 ⟨rfl, d, rfl⟩
      go_wp2_with fail
      refine (H2.out _ (below_drewN hbW _)).mono ?_
      rintro e' w1 ⟨rfl, d, rfl⟩
      go_wp2_with fail
      go_ret
      exact ⟨by rw [hE.out]; rfl, below_drewN hbW _⟩
    · obtain ⟨l3, hl3⟩ : ∃ l3, l2 - (tot3 t : Int) = l3 := ⟨_, rfl⟩
      have hE := hide (show szI l (cocycle_tot (os, z, t)) = l3 by have := HE.out; rw [szI_ok (by unfold cocycle_tot; simp only; omega)]; unfold cocycle_tot; simp only; omega)
      have hl30 : ¬ l3 < 0 := by omega
      rw [szI_ok q2, hl3] at H2
      clear q2 hl3
      go_enter Try.func31, Try.ntmps31
      go_wp2_with fail
      obtain ⟨W, hW⟩ : ∃ W, w.alloc (.cells #[.slice A os.length c, .int .i64 z, .slice D t.length e] 47) = W := ⟨_, rfl⟩
      have hbW : Below w.heap.size w W := by rw [← hW]; exact (by repeat (first | assumption | exact Below.refl _ _ | apply below_drewN | apply Below.drew | apply Below.alloc | apply Below.setCell | omega | (focus (simp; done)) | (focus (simp; omega))))
      have q2 : W.cell? ⟨w.heap.size, 2, none⟩ = some (.slice D t.length e) := by rw [← hW]; exact (Blk.new _ _ _).cell 2
      rw [hW]
      clear hW
      refine (H1.out _).mono ?_
      rintro e' w1 ⟨rfl, d, rfl⟩
      go_wp2_with fail
      refine (H2.out _ (below_drewN hbW _)).mono ?_
      rintro e' w1 ⟨rfl, d, rfl⟩
      go_wp2_with fail
      go_ret
      exact ⟨by rw [hE.out]; rfl, below_drewN hbW _⟩

set_option maxHeartbeats 2000000 in
theorem cocycle_to (w : World) (v : Value) (x : cocycle_T) (h : cocycle_R w w.heap.size v x) (hs : cocycle_Sh x) : Calls Try.prog 33 #[v] w (MkE cocycle_E w x) := by
  obtain ⟨A, n, c, D, m, e, rfl, h1, h2, h3⟩ := h
  obtain ⟨os, z, t⟩ := x
  simp only at h1 h2 h3 ⊢
  obtain rfl := h1.len
  obtain rfl := h2.len
  have hs' : os.length + tot3 t ≤ 1048576 := hs
  have hst := sh3_of (t := t) (by omega)
  go_enter Try.func33, Try.ntmps33
  go_wp2_with fail
  have hW3 : Below w.heap.size w (((w.alloc (.cells #[.slice A os.length c, .int .i64 z, .slice D t.length e] 47)).alloc (.cells #[.slice none 0 0, .int .i64 0, .slice none 0 0] 25)).alloc (.cells #[.slice none 0 0, .int .i64 0, .slice none 0 0] 25)) := (by repeat (first | assumption | exact Below.refl _ _ | apply below_drewN | apply Below.drew | apply Below.alloc | apply Below.setCell | omega | (focus (simp; done)) | (focus (simp; omega))))
  refine ((toInt64S_any _ _ _ _ _ _ ((h1.below hW3).more (by simp; omega)) (Nat.le_refl _) (by omega)).mono fun _ _ h => mkE1 h h1.rng).mono ?_
  rintro e1 w1 ⟨v1, rfl, he1, hb1⟩
  obtain ⟨A1, c1, rfl, hsv⟩ := he1.sl
  clear hsv
  have ba : Blk w1 w.heap.size 47 #[.slice A os.length c, .int .i64 z, .slice D t.length e] := Blk.all (((Blk.new _ _ _).alloc _).alloc _) hb1
  have br : Blk w1 (w.heap.size + 1) 25 #[.slice none 0 0, .int .i64 0, .slice none 0 0] := Blk.all ((Blk.new' _ _ _ _ (by simp)).alloc _) hb1
  have bo : Blk w1 (w.heap.size + 1 + 1) 25 #[.slice none 0 0, .int .i64 0, .slice none 0 0] := Blk.all (Blk.new' _ _ _ _ (by simp)) hb1
  have hbw1 : Below w.heap.size w w1 := hW3.trans (hb1.mono (by simp; omega))
  have hsz1 := hb1.size
  simp only [World.size_alloc] at hsz1 he1
  clear hb1
  obtain ⟨w2, hw2⟩ : ∃ w2, (w1.setCell ⟨w.heap.size + 1 + 1, 0, none⟩ (.slice A1 os.length c1)).setCell ⟨w.heap.size + 1 + 1, 1, none⟩ (.int .i64 z) = w2 := ⟨_, rfl⟩
  have hwr1 : Wr w1 w2 (fun b => b < w.heap.size + 1 + 1 + 1) := by
    rw [← hw2]
    exact ⟨rfl, rfl, rfl, by simp [World.setCell], fun b hb hn => by rw [Below.heap_setCell _ _ _ _ (by simp; omega), Below.heap_setCell _ _ _ _ (by simp; omega)]⟩
  have hsz2 : w2.heap.size = w1.heap.size := by rw [← hw2]; simp [World.setCell]
  have ba2 : Blk w2 w.heap.size 47 #[.slice A os.length c, .int .i64 z, .slice D t.length e] := by rw [← hw2]; exact (ba.far (p := ⟨w.heap.size + 1 + 1, 0, none⟩) (by simp; omega) _).far (p := ⟨w.heap.size + 1 + 1, 1, none⟩) (by simp; omega) _
  have br2 : Blk w2 (w.heap.size + 1) 25 #[.slice none 0 0, .int .i64 0, .slice none 0 0] := by rw [← hw2]; exact (br.far (p := ⟨w.heap.size + 1 + 1, 0, none⟩) (by simp) _).far (p := ⟨w.heap.size + 1 + 1, 1, none⟩) (by simp) _
  have bo2 : Blk w2 (w.heap.size + 1 + 1) 25 #[.slice A1 os.length c1, .int .i64 z, .slice none 0 0] := by rw [← hw2]; exact (bo.store 0 _).store 1 _
  have hbw2 : Below w.heap.size w w2 := by rw [← hw2]; exact (hbw1.setCell (p := ⟨w.heap.size + 1 + 1, 0, none⟩) (by simp; omega) _).setCell (p := ⟨w.heap.size + 1 + 1, 1, none⟩) (by simp; omega) _
  have he2 := E1.wr' he1 hwr1 (fun b h1 h2 => by have := h1.1; omega)
  have z0 := ba.cell 0
  have z1 := ba.cell 1
  have z2 := ba2.cell 2
  have y0 := bo.cell 0
  have y1 := bo.cell 1
  have f0 := bo.frozen 0
  have f1 := bo.frozen 1
  go_wp2_with fail
  clear hw2 z0 z1 z2 y0 y1 f0 f1
  refine (toInt64SSS_any _ _ _ _ _ ((h2.below hbw2).more hbw2.size) hst.1 hst.2).mono ?_
  rintro e2 w3 ⟨v2, rfl, he3, hb3⟩
  obtain ⟨A2, c2, rfl, hsv⟩ := E3.sl3 he3
  clear hsv
  have bo3 := bo2.all hb3
  have br3 := br2.all hb3
  have he4 := E1.below he2 hb3
  have hsz3 := hb3.size
  have hbw3 := hbw2.trans (hb3.mono hbw2.size)
  clear hb3
  have bo4 := bo3.store 2 (.slice A2 t.length c2)
  have br4 := br3.far (p := ⟨w.heap.size + 1 + 1, 2, none⟩) (by simp) (.slice A2 t.length c2)
  have br5 := ((br4.store 0 (.slice A1 os.length c1)).store 1 (.int .i64 z)).store 2 (.slice A2 t.length c2)
  have z0 := bo4.cell 0
  have z1 := bo4.cell 1
  have z2 := bo4.cell 2
  have y2 := bo3.cell 2
  have f2 := bo3.frozen 2
  have x0 := br4.cell 0
  have x1 := br4.cell 1
  have x2 := br4.cell 2
  have g0 := br4.frozen 0
  have g1 := br4.frozen 1
  have g2 := br4.frozen 2
  have u0 := br5.cell 0
  have u1 := br5.cell 1
  have u2 := br5.cell 2
  go_wp2_with fail
  refine bodyPost_ret (v := .agg #[.slice A1 os.length c1, .int .i64 z, .slice A2 t.length c2]) (by simp [results, Try.results33, go_sem, u0, u1, u2]) rfl ?_
  have hw5 : Wr w3 (((((w3.setCell ⟨w.heap.size + 1 + 1, 2, none⟩ (.slice A2 t.length c2)).setCell ⟨w.heap.size + 1, 0, none⟩ (.slice A1 os.length c1)).setCell ⟨w.heap.size + 1, 1, none⟩ (.int .i64 z)).setCell ⟨w.heap.size + 1, 2, none⟩ (.slice A2 t.length c2))) (fun b => b < w.heap.size + 1 + 1 + 1) :=
    ⟨rfl, rfl, rfl, by simp [World.setCell], fun b hb hn => by rw [Below.heap_setCell _ _ _ _ (by simp; omega), Below.heap_setCell _ _ _ _ (by simp; omega), Below.heap_setCell _ _ _ _ (by simp; omega), Below.heap_setCell _ _ _ _ (by simp; omega)]⟩
  refine ⟨_, rfl, ⟨h3, _, _, _, _, rfl, E1.wr' he4 hw5 (fun b h1 h2 => by have := h1.1; omega), E3.wr' he3 hw5 (fun b h1 h2 => by have := h1.1; omega), fun b h1 h2 => by have := h1.2; have := h2.1; omega, fun b hb => ?_, fun b hb => ?_, fun b hb => hb.2⟩, (((hbw3.setCell (p := ⟨w.heap.size + 1 + 1, 2, none⟩) (by simp; omega) _).setCell (p := ⟨w.heap.size + 1, 0, none⟩) (by simp) _).setCell (p := ⟨w.heap.size + 1, 1, none⟩) (by simp) _).setCell (p := ⟨w.heap.size + 1, 2, none⟩) (by simp) _⟩
  · have := hw5.size; have := hb.1; have := hb.2; simp [World.setCell]; omega
  · have := hw5.size; have := hb.1; have := hb.2; simp [World.setCell]; omega
set_option maxHeartbeats 2000000 in
theorem cocycle_eq (w : World) (v v' : Value) (x y : cocycle_T) (h : cocycle_R w w.heap.size v x) (h' : cocycle_R w w.heap.size v' y) (hs : cocycle_Sh x) : Calls Try.prog 15 #[v, v'] w (Re w (.bool (x == y))) := by
  obtain ⟨A, n, c, D, m, e, rfl, h1, h2, h3⟩ := h
  obtain ⟨A', n', c', D', m', e', rfl, k1, k2, k3⟩ := h'
  obtain ⟨os, z, t⟩ := x
  obtain ⟨os', z', t'⟩ := y
  simp only at h1 h2 h3 k1 k2 k3 ⊢
  obtain rfl := h1.len
  obtain rfl := h2.len
  have hs' : os.length + tot3 t ≤ 1048576 := hs
  have hst := sh3_of (t := t) (by omega)
  have H1 := hide (fun W (hW : Below w.heap.size w W) => eqInt64S_any W _ _ A A' os.length n' c c' os os' (h1.below hW) (k1.below hW) (by omega))
  have H2 := hide (fun W (hW : Below w.heap.size w W) => eqInt64SSS_any W _ _ D D' t.length m' e e' t t' (h2.below hW) (k2.below hW) hst.1 hst.2)
  have hE : ((os, z, t) == (os', z', t')) = (os == os' && (z == z' && t == t')) := rfl
  rw [hE]
  clear hE
  obtain ⟨r1, hr1⟩ : ∃ r, (os == os') = r := ⟨_, rfl⟩
  obtain ⟨r3, hr3⟩ : ∃ r, (t == t') = r := ⟨_, rfl⟩
  obtain ⟨r2, hr2⟩ : ∃ r, (z == z') = r := ⟨_, rfl⟩
  rw [hr1] at H1
  rw [hr3] at H2
  rw [hr1, hr2, hr3]
  have hq : (z != z') = !r2 := by simp [bne, hr2]
  clear hr1 hr2 hr3
  cases r1
  · skip
    go_enter Try.func15, Try.ntmps15
    go_wp2_with fail
    obtain ⟨W, hW⟩ : ∃ W, (w.alloc (.cells #[.slice A os.length c, .int .i64 z, .slice D t.length e] 25)).alloc (.cells #[.slice A' n' c', .int .i64 z', .slice D' m' e'] 25) = W := ⟨_, rfl⟩
    have hbW : Below w.heap.size w W := by rw [← hW]; exact (by repeat (first | assumption | exact Below.refl _ _ | apply below_drewN | apply Below.drew | apply Below.alloc | apply Below.setCell | omega | (focus (simp; done)) | (focus (simp; omega))))
    have b1 : Blk W w.heap.size 25 #[.slice A os.length c, .int .i64 z, .slice D t.length e] := by rw [← hW]; exact (Blk.new _ _ _).alloc _
    have b2 : Blk W (w.heap.size + 1) 25 #[.slice A' n' c', .int .i64 z', .slice D' m' e'] := by rw [← hW]; exact Blk.new' _ _ _ _ (by simp)
    have x1 := b1.cell 1
    have x2 := b1.cell 2
    have y1 := b2.cell 1
    have y2 := b2.cell 2
    rw [hW]
    clear hW
    refine (H1.out _ hbW).mono ?_
    rintro e1 w1 ⟨rfl, d, rfl⟩
    go_wp2_with fail
    go_ret
    exact ⟨rfl, below_drewN hbW _⟩
  · cases r2
    · simp only [Bool.not_false] at hq
      go_enter Try.func15, Try.ntmps15
      go_wp2_with fail
      obtain ⟨W, hW⟩ : ∃ W, (w.alloc (.cells #[.slice A os.length c, .int .i64 z, .slice D t.length e] 25)).alloc (.cells #[.slice A' n' c', .int .i64 z', .slice D' m' e'] 25) = W := ⟨_, rfl⟩
      have hbW : Below w.heap.size w W := by rw [← hW]; exact (by repeat (first | assumption | exact Below.refl _ _ | apply below_drewN | apply Below.drew | apply Below.alloc | apply Below.setCell | omega | (focus (simp; done)) | (focus (simp; omega))))
      have b1 : Blk W w.heap.size 25 #[.slice A os.length c, .int .i64 z, .slice D t.length e] := by rw [← hW]; exact (Blk.new _ _ _).alloc _
      have b2 : Blk W (w.heap.size + 1) 25 #[.slice A' n' c', .int .i64 z', .slice D' m' e'] := by rw [← hW]; exact Blk.new' _ _ _ _ (by simp)
      have x1 := b1.cell 1
      have x2 := b1.cell 2
      have y1 := b2.cell 1
      have y2 := b2.cell 2
      rw [hW]
      clear hW
      refine (H1.out _ hbW).mono ?_
      rintro e1 w1 ⟨rfl, d, rfl⟩
      go_wp2_with fail
      go_ret
      exact ⟨rfl, below_drewN hbW _⟩
    · simp only [Bool.not_true] at hq
      cases r3
      all_goals
        go_enter Try.func15, Try.ntmps15
        go_wp2_with fail
        obtain ⟨W, hW⟩ : ∃ W, (w.alloc (.cells #[.slice A os.length c, .int .i64 z, .slice D t.length e] 25)).alloc (.cells #[.slice A' n' c', .int .i64 z', .slice D' m' e'] 25) = W := ⟨_, rfl⟩
        have hbW : Below w.heap.size w W := by rw [← hW]; exact (by repeat (first | assumption | exact Below.refl _ _ | apply below_drewN | apply Below.drew | apply Below.alloc | apply Below.setCell | omega | (focus (simp; done)) | (focus (simp; omega))))
        have b1 : Blk W w.heap.size 25 #[.slice A os.length c, .int .i64 z, .slice D t.length e] := by rw [← hW]; exact (Blk.new _ _ _).alloc _
        have b2 : Blk W (w.heap.size + 1) 25 #[.slice A' n' c', .int .i64 z', .slice D' m' e'] := by rw [← hW]; exact Blk.new' _ _ _ _ (by simp)
        have x1 := b1.cell 1
        have x2 := b1.cell 2
        have y1 := b2.cell 1
        have y2 := b2.cell 2
        rw [hW]
        clear hW
        refine (H1.out _ hbW).mono ?_
        rintro e1 w1 ⟨rfl, d, rfl⟩
        go_wp2_with fail
        refine (H2.out _ (below_drewN hbW _)).mono ?_
        rintro e1 w1 ⟨rfl, d2, rfl⟩
        go_wp2_with fail
        go_ret
        exact ⟨rfl, below_drewN hbW _⟩
set_option maxHeartbeats 2000000 in
theorem cocycle_mark (w : World) (v : Value) (x : cocycle_T) (fp : Nat → Prop) (q : Int) (h : cocycle_E w v x fp) (hn : cocycle_tot x ≤ 1048576) (hq0 : 0 ≤ q) (hq1 : q ≤ 50000000) : Calls Try.prog 16 #[v, .int .i64 q] w (MrkE cocycle_E cocycle_mk cocycle_sum w v x fp q) := by
  obtain ⟨os, z, t⟩ := x
  obtain ⟨h0, u1, u2, F1, F2, e0, h1, h2, h3, h4, h5, h6⟩ := h
  simp only at h0 e0 h1 h2
  subst e0
  have hn' : os.length + tot3 t ≤ 1048576 := hn
  have hs3 := sum3_le_tot3 t
  obtain ⟨A1, c1, rfl, _⟩ := h1.sl
  obtain ⟨A2, c2, rfl, _⟩ := E3.sl3 h2
  go_enter Try.func16, Try.ntmps16
  go_wp2_with fail
  obtain ⟨W, hW⟩ : ∃ W, w.alloc (.cells #[.slice A1 os.length c1, .int .i64 z, .slice A2 t.length c2] 25) = W := ⟨_, rfl⟩
  have hbW : Below w.heap.size w W := by rw [← hW]; exact (by repeat (first | assumption | exact Below.refl _ _ | apply below_drewN | apply Below.drew | apply Below.alloc | apply Below.setCell | omega | (focus (simp; done)) | (focus (simp; omega))))
  have bW : Blk W w.heap.size 25 #[.slice A1 os.length c1, .int .i64 z, .slice A2 t.length c2] := by rw [← hW]; exact Blk.new _ _ _
  rw [hW]
  clear hW
  have k1 := E1.below h1 hbW
  have k2 := E3.below h2 hbW
  refine ((markInt64S_any W 0 _ q os k1.own (by omega) hq0 (by omega)).mono fun _ _ h => mrkE1 h k1 hq0 (by omega) (by omega)).mono ?_
  rintro e w1 ⟨rfl, m1, hw1⟩
  have bW1 := hw1.blk bW (fun hf => by have := h6 _ (h4 _ hf); omega)
  have m2 := E3.wr' k2 hw1 (fun b a c => h3 b c a)
  obtain ⟨q2, hq2⟩ : ∃ q2, q + (os.length : Int) = q2 := ⟨_, rfl⟩
  rw [hq2]
  have hq20 : 0 ≤ q2 := by omega
  have hq21 : q2 ≤ 100000000 := by omega
  have HQ := hide hq2
  have x2 := bW1.cell 2
  clear hq2
  go_wp2_with fail
  refine (markInt64SSS_any w1 _ t F2 q2 m2 (by have : totL tot2 t = tot3 t := rfl; omega) hq20 hq21).mono ?_
  rintro e w2 ⟨rfl, m3, hw2⟩
  have m4 := E1.wr' m1 hw2 (fun b a c => h3 b a c)
  have hsz := Nat.le_trans hbW.size (Nat.le_trans hw1.size hw2.size)
  have HM : cocycle_E w2 (.agg #[.slice A1 os.length c1, .int .i64 z, .slice A2 t.length c2]) (cocycle_mk q (os, z, t)) fp := by
    refine ⟨h0, _, _, F1, F2, rfl, m4, ?_, h3, h4, h5, fun b hb => Nat.lt_of_lt_of_le (h6 b hb) hsz⟩
    simp only [cocycle_mk]
    rw [HQ.out]; exact m3
  obtain ⟨s, hs⟩ : ∃ s, q2 + (sum3 t : Int) = s := ⟨_, rfl⟩
  have hs' : q + (cocycle_sum (os, z, t) : Int) = s := by have := HQ.out; unfold cocycle_sum; simp only; omega
  rw [hs]
  have HS := hide hs'
  clear hs hs' x2
  go_wp2_with fail
  go_ret
  exact ⟨by rw [HS.out]; rfl, HM, ((Wr.of_below hbW).trans (hw1.mono h4)).trans (hw2.mono h5)⟩
set_option maxHeartbeats 2000000 in
theorem cocycle_heldc (w : World) (v : Value) (x : cocycle_T) (q : Int) (h : cocycle_R w w.heap.size v x) (hs : cocycle_Sh x) (hq0 : 0 ≤ q) (hq1 : q ≤ 50000000) : Calls Try.prog 17 #[v, .int .i64 q] w (Re w (.int .i64 (cocycle_held q x))) := by
  obtain ⟨A, n, c, D, m, e, rfl, h1, h2, h3⟩ := h
  obtain ⟨os, z, t⟩ := x
  simp only at h1 h2 h3 ⊢
  obtain rfl := h1.len
  obtain rfl := h2.len
  have hs' : os.length + tot3 t ≤ 1048576 := hs
  have hst := sh3_of (t := t) (by omega)
  have hsum := sum3_le_tot3 t
  have hge := heldI_ge os q hq0
  have H1 := hide (fun W (hW : Below w.heap.size w W) => heldInt64S_any W _ A os.length c q os (h1.below hW) (by omega) hq0 (by omega))
  obtain ⟨r, hr⟩ : ∃ r, heldI q os = r := ⟨_, rfl⟩
  rw [hr] at H1 hge
  have HR := hide hr
  clear hr
  by_cases hr0 : r < 0
  · have hE := hide (show cocycle_held q (os, z, t) = -1 by unfold cocycle_held; simp only; rw [HR.out, if_pos hr0])
    go_enter Try.func17, Try.ntmps17
    go_wp2_with fail
    refine (H1.out _ ((Below.refl _ _).alloc (Nat.le_refl _) _)).mono ?_
    rintro e w1 ⟨rfl, d, rfl⟩
    go_wp2_with fail
    go_ret
    exact ⟨by rw [hE.out]; rfl, (by repeat (first | assumption | exact Below.refl _ _ | apply below_drewN | apply Below.drew | apply Below.alloc | apply Below.setCell | omega | (focus (simp; done)) | (focus (simp; omega))))⟩
  · have H2 := hide (fun W (hW : Below w.heap.size w W) => heldInt64SSS_any W _ D t.length e t r (h2.below hW) hst.1 hst.2 (by have : (t.map sum2).sum = sum3 t := rfl; omega) (by omega) (by omega))
    have hge3 := held3_ge t r (by omega)
    have hE := show cocycle_held q (os, z, t) = held3 r t by unfold cocycle_held; simp only; rw [HR.out, if_neg hr0]
    have hd : heldL held2 r t = held3 r t := rfl
    rw [hd] at H2
    clear hd
    obtain ⟨s, hs⟩ : ∃ s, held3 r t = s := ⟨_, rfl⟩
    rw [hs] at H2 hge3 hE
    have HE := hide hE
    clear hs hE
    obtain ⟨hg1, hg2⟩ := hge3
    by_cases hs0 : s < 0
    · obtain rfl : s = -1 := by omega
      go_enter Try.func17, Try.ntmps17
      go_wp2_with fail
      obtain ⟨W, hW⟩ : ∃ W, w.alloc (.cells #[.slice A os.length c, .int .i64 z, .slice D t.length e] 25) = W := ⟨_, rfl⟩
      have hbW : Below w.heap.size w W := by rw [← hW]; exact (by repeat (first | assumption | exact Below.refl _ _ | apply below_drewN | apply Below.drew | apply Below.alloc | apply Below.setCell | omega | (focus (simp; done)) | (focus (simp; omega))))
      have q2 : W.cell? ⟨w.heap.size, 2, none⟩ = some (.slice D t.length e) := by rw [← hW]; exact (Blk.new _ _ _).cell 2
      rw [hW]
      clear hW
      refine (H1.out _ hbW).mono ?_
      rintro e w1 ⟨rfl, d, rfl⟩
      go_wp2_with fail
      refine (H2.out _ (below_drewN hbW _)).mono ?_
      rintro e w1 ⟨rfl, d, rfl⟩
      go_wp2_with fail
      go_ret
      exact ⟨by rw [HE.out]; rfl, below_drewN hbW _⟩
    · go_enter Try.func17, Try.ntmps17
      go_wp2_with fail
      obtain ⟨W, hW⟩ : ∃ W, w.alloc (.cells #[.slice A os.length c, .int .i64 z, .slice D t.length e] 25) = W := ⟨_, rfl⟩
      have hbW : Below w.heap.size w W := by rw [← hW]; exact (by repeat (first | assumption | exact Below.refl _ _ | apply below_drewN | apply Below.drew | apply Below.alloc | apply Below.setCell | omega | (focus (simp; done)) | (focus (simp; omega))))
      have q2 : W.cell? ⟨w.heap.size, 2, none⟩ = some (.slice D t.length e) := by rw [← hW]; exact (Blk.new _ _ _).cell 2
      rw [hW]
      clear hW
      refine (H1.out _ hbW).mono ?_
      rintro e w1 ⟨rfl, d, rfl⟩
      go_wp2_with fail
      refine (H2.out _ (below_drewN hbW _)).mono ?_
      rintro e w1 ⟨rfl, d, rfl⟩
      go_wp2_with fail
      go_ret
      exact ⟨by rw [HE.out]; rfl, below_drewN hbW _⟩
end Go.Proofs.Ythjlpgaoemdmkaa
