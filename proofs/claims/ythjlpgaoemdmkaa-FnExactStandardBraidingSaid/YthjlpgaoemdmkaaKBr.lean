
/- The kind of a braiding: a cocycle and a table. -/
import Derived.Test.YthjlpgaoemdmkaaKC
namespace Go.Proofs.Ythjlpgaoemdmkaa
open Go Go.RowKit
set_option linter.unusedSimpArgs false
set_option linter.unusedVariables false
set_option maxRecDepth 100000
abbrev braiding_T := cocycle_T × List (List Int)
def braiding_R (w : World) (B : Nat) (v : Value) (x : braiding_T) : Prop := ∃ a b c H l g, v = .agg #[a, b, c, .slice H l g] ∧ cocycle_R w B (.agg #[a, b, c]) x.1 ∧ Sl2 w B H l g x.2
def braiding_E : Own braiding_T := fun w v x fp => ∃ a b c u2 F1 F2, v = .agg #[a, b, c, u2] ∧ cocycle_E w (.agg #[a, b, c]) x.1 F1 ∧ E2 w u2 x.2 F2 ∧ (∀ b, F1 b → F2 b → False) ∧ (∀ b, F1 b → fp b) ∧ (∀ b, F2 b → fp b) ∧ (∀ b, fp b → b < w.heap.size)
def braiding_Big (x : braiding_T) : Prop := cocycle_Big x.1 ∧ Big2 x.2
def braiding_tot (x : braiding_T) : Nat := cocycle_tot x.1 + tot2 x.2
def braiding_Sh (x : braiding_T) : Prop := braiding_tot x ≤ 1048576
def braiding_sum (x : braiding_T) : Nat := cocycle_sum x.1 + sum2 x.2
def braiding_mk (q : Int) (x : braiding_T) : braiding_T := (cocycle_mk q x.1, mark2 (q + cocycle_sum x.1) x.2)
def braiding_held (q : Int) (x : braiding_T) : Int := if cocycle_held q x.1 < 0 then -1 else held2 (cocycle_held q x.1) x.2
theorem cocycle_heldmk {x : cocycle_T} (q : Int) (hq : 0 ≤ q) : cocycle_held q (cocycle_mk q x) = q + (cocycle_sum x : Int) := by
  unfold cocycle_held cocycle_mk cocycle_sum
  simp only
  rw [heldI_mark1 q x.1 hq, if_neg (by omega), held3_mark3 _ _ (by omega)]
  omega
theorem cocycle_held_ge (q : Int) (x : cocycle_T) (h : 0 ≤ q) : -1 ≤ cocycle_held q x ∧ cocycle_held q x ≤ q + cocycle_sum x := by
  unfold cocycle_held cocycle_sum
  have h1 := heldI_ge x.1 q h
  split
  · omega
  · have := held3_ge x.2.2 (heldI q x.1) (by omega)
    omega
theorem tot2_mark (q : Int) (t : List (List Int)) : tot2 (mark2 q t) = tot2 t := markL_tot (fun q x => by unfold mark1; rw [marks_length]) t q
section
variable {w w' : World} {B B' : Nat} {v : Value} {x : braiding_T} {fp fq : Nat → Prop}
theorem braiding_form (h : braiding_R w B v x) : ∃ A n c z D m e H l g, v = .agg #[.slice A n c, .int .i64 z, .slice D m e, .slice H l g] ∧ x.1.2.1 = z := by
  obtain ⟨u1, u2, u3, H, l, g, rfl, h1, _⟩ := h
  obtain ⟨A, n, c, z, D, m, e, hu, hz⟩ := cocycle_form h1
  simp only [Value.agg.injEq, Array.mk.injEq, List.cons.injEq, and_true] at hu
  obtain ⟨rfl, rfl, rfl⟩ := hu
  exact ⟨A, n, c, z, D, m, e, H, l, g, rfl, hz⟩
theorem braiding_keep (h : braiding_R w B v x) (hb : Below B w w') (hB : B ≤ B') : braiding_R w' B' v x := by
  obtain ⟨a, b, c, H, l, g, h1, h2, h3⟩ := h
  exact ⟨a, b, c, H, l, g, h1, cocycle_keep h2 hb hB, (h3.below hb).more hB⟩
theorem braiding_rd (h : braiding_E w v x fp) : braiding_R w w.heap.size v x := by
  obtain ⟨u, u', u'', u2, F1, F2, rfl, h1, h2, _⟩ := h
  obtain ⟨A, c, rfl, hs⟩ := E2.sl2 h2
  exact ⟨_, _, _, A, _, c, rfl, cocycle_rd h1, hs⟩
theorem braiding_kp : Kp braiding_E := by
  intro w w' v x fp h hk hs
  obtain ⟨u, u', u'', u2, F1, F2, e, h1, h2, h3, h4, h5, h6⟩ := h
  exact ⟨u, u', u'', u2, F1, F2, e, cocycle_kp _ _ _ _ _ h1 (fun b hb => hk b (h4 b hb)) hs, kp2 _ _ _ _ _ h2 (fun b hb => hk b (h5 b hb)) hs, h3, h4, h5, fun b hb => Nat.lt_of_lt_of_le (h6 b hb) hs⟩
theorem braiding_bd (h : braiding_E w v x fp) : ∀ b, fp b → b < w.heap.size := by
  obtain ⟨_, _, _, _, _, _, _, _, _, _, _, _, h6⟩ := h
  exact h6
theorem braiding_below (h : braiding_E w v x fp) (hb : Below w.heap.size w w') : braiding_E w' v x fp := braiding_kp _ _ _ _ _ h (fun b hf => hb.block b (braiding_bd h b hf)) hb.size
theorem braiding_wr (h : braiding_E w v x fp) (hw : Wr w w' fq) (hd : ∀ b, fp b → fq b → False) : braiding_E w' v x fp := braiding_kp _ _ _ _ _ h (fun b hb => hw.block b (braiding_bd h b hb) (hd b hb)) hw.size
theorem braiding_mono (h : braiding_E w v x fp) (hf : ∀ b, fp b → fq b) (hb : ∀ b, fq b → b < w.heap.size) : braiding_E w v x fq := by
  obtain ⟨u, u', u'', u2, F1, F2, e, h1, h2, h3, h4, h5, h6⟩ := h
  exact ⟨u, u', u'', u2, F1, F2, e, h1, h2, h3, fun b hb => hf b (h4 b hb), fun b hb => hf b (h5 b hb), hb⟩
theorem braiding_sh (h : braiding_tot x ≤ 1048576) : braiding_Sh x := h
theorem braiding_sumle (x : braiding_T) : braiding_sum x ≤ braiding_tot x := by unfold braiding_sum braiding_tot; have := cocycle_sumle x.1; have := sum2_le_tot2 x.2; omega
theorem braiding_shmk {q : Int} (h : braiding_Sh x) : braiding_Sh (braiding_mk q x) := by
  unfold braiding_Sh braiding_tot braiding_mk cocycle_mk cocycle_tot mark1 at *
  rw [marks_length, tot3_mark, tot2_mark]; exact h
theorem braiding_heldmk1 : braiding_held 1 (braiding_mk 1 x) = 1 + (braiding_sum x : Int) := by
  unfold braiding_held braiding_mk braiding_sum
  simp only
  rw [cocycle_heldmk 1 (by omega), if_neg (by omega), held2_mark2 _ _ (by omega)]
  omega
end
theorem agg3_inj {a b c d e f : Value} (h : Value.agg #[a, b, c] = .agg #[d, e, f]) : a = d ∧ b = e ∧ c = f := by simpa using h
set_option maxHeartbeats 2000000 in
theorem braiding_eq (w : World) (v v' : Value) (x y : braiding_T) (h : braiding_R w w.heap.size v x) (h' : braiding_R w w.heap.size v' y) (hs : braiding_Sh x) : Calls Try.prog 24 #[v, v'] w (Re w (.bool (x == y))) := by
  obtain ⟨a1, a2, a3, H, l, g, rfl, h1, h2⟩ := h
  obtain ⟨b1, b2, b3, H', l', g', rfl, k1, k2⟩ := h'
  obtain ⟨p, t⟩ := x
  obtain ⟨p', t'⟩ := y
  simp only at h1 h2 k1 k2 ⊢
  obtain rfl := h2.len
  have hs' : cocycle_tot p + tot2 t ≤ 1048576 := hs
  have hst : t.length ≤ 1048576 ∧ ∀ xs ∈ t, xs.length ≤ 1048576 := by
    have hx : tot2 t ≤ 1048576 := by omega
    refine ⟨by unfold tot2 totL at hx; omega, fun ys hy => ?_⟩
    have := totL_mem (f := List.length) hy
    unfold tot2 at hx
    omega
  have H1 := hide (fun W (hW : Below w.heap.size w W) => cocycle_eq W _ _ p p' (cocycle_keep h1 hW hW.size) (cocycle_keep k1 hW hW.size) (by unfold cocycle_Sh; unfold cocycle_tot at hs'; omega))
  have H2 := hide (fun W (hW : Below w.heap.size w W) => eqInt64SS_any W _ _ H H' t.length l' g g' t t' (h2.below hW) (k2.below hW) hst.1 hst.2)
  have hE : ((p, t) == (p', t')) = (p == p' && t == t') := rfl
  rw [hE]
  clear hE
  obtain ⟨r1, hr1⟩ : ∃ r, (p == p') = r := ⟨_, rfl⟩
  obtain ⟨r2, hr2⟩ : ∃ r, (t == t') = r := ⟨_, rfl⟩
  rw [hr1] at H1
  rw [hr2] at H2
  rw [hr1, hr2]
  clear hr1 hr2
  obtain ⟨A, n, c, z, D, m, e, hu, hz⟩ := cocycle_form h1
  obtain ⟨rfl, rfl, rfl⟩ := agg3_inj hu
  obtain ⟨A', n', c', z', D', m', e', hu', hz'⟩ := cocycle_form k1
  obtain ⟨rfl, rfl, rfl⟩ := agg3_inj hu'
  clear hu hu' hz hz' h1 h2 k1 k2
  cases r1
  · skip
    go_enter Try.func24, Try.ntmps24
    go_wp2_with fail
    obtain ⟨W, hW⟩ : ∃ W, (w.alloc (.cells #[.slice A n c, .int .i64 z, .slice D m e, .slice H t.length g] 37)).alloc (.cells #[.slice A' n' c', .int .i64 z', .slice D' m' e', .slice H' l' g'] 37) = W := ⟨_, rfl⟩
    have hbW : Below w.heap.size w W := by rw [← hW]; exact (by repeat (first | assumption | exact Below.refl _ _ | apply below_drewN | apply Below.drew | apply Below.alloc | apply Below.setCell | omega | (focus (simp; done)) | (focus (simp; omega))))
    have b1 : Blk W w.heap.size 37 #[.slice A n c, .int .i64 z, .slice D m e, .slice H t.length g] := by rw [← hW]; exact (Blk.new _ _ _).alloc _
    have b2 : Blk W (w.heap.size + 1) 37 #[.slice A' n' c', .int .i64 z', .slice D' m' e', .slice H' l' g'] := by rw [← hW]; exact Blk.new' _ _ _ _ (by simp)
    have x3 := b1.cell 3
    have y3 := b2.cell 3
    rw [hW]
    clear hW
    refine (H1.out _ hbW).mono ?_
    rintro e1 w1 ⟨rfl, hb1⟩
    replace x3 := (hb1.cell (p := ⟨w.heap.size, 3, none⟩) b1.lt).trans x3
    replace y3 := (hb1.cell (p := ⟨w.heap.size + 1, 3, none⟩) b2.lt).trans y3
    have hbW1 := hbW.trans (hb1.mono hbW.size)
    go_wp2_with fail
    go_ret
    exact ⟨rfl, hbW1⟩
  · cases r2
    all_goals
      go_enter Try.func24, Try.ntmps24
      go_wp2_with fail
      obtain ⟨W, hW⟩ : ∃ W, (w.alloc (.cells #[.slice A n c, .int .i64 z, .slice D m e, .slice H t.length g] 37)).alloc (.cells #[.slice A' n' c', .int .i64 z', .slice D' m' e', .slice H' l' g'] 37) = W := ⟨_, rfl⟩
      have hbW : Below w.heap.size w W := by rw [← hW]; exact (by repeat (first | assumption | exact Below.refl _ _ | apply below_drewN | apply Below.drew | apply Below.alloc | apply Below.setCell | omega | (focus (simp; done)) | (focus (simp; omega))))
      have b1 : Blk W w.heap.size 37 #[.slice A n c, .int .i64 z, .slice D m e, .slice H t.length g] := by rw [← hW]; exact (Blk.new _ _ _).alloc _
      have b2 : Blk W (w.heap.size + 1) 37 #[.slice A' n' c', .int .i64 z', .slice D' m' e', .slice H' l' g'] := by rw [← hW]; exact Blk.new' _ _ _ _ (by simp)
      have x3 := b1.cell 3
      have y3 := b2.cell 3
      rw [hW]
      clear hW
      refine (H1.out _ hbW).mono ?_
      rintro e1 w1 ⟨rfl, hb1⟩
      replace x3 := (hb1.cell (p := ⟨w.heap.size, 3, none⟩) b1.lt).trans x3
      replace y3 := (hb1.cell (p := ⟨w.heap.size + 1, 3, none⟩) b2.lt).trans y3
      have hbW1 := hbW.trans (hb1.mono hbW.size)
      go_wp2_with fail
      refine (H2.out _ hbW1).mono ?_
      rintro e2 w2 ⟨rfl, d2, rfl⟩
      go_wp2_with fail
      go_ret
      exact ⟨rfl, below_drewN hbW1 _⟩
set_option maxHeartbeats 2000000 in
theorem braiding_mark (w : World) (v : Value) (x : braiding_T) (fp : Nat → Prop) (q : Int) (h : braiding_E w v x fp) (hn : braiding_tot x ≤ 1048576) (hq0 : 0 ≤ q) (hq1 : q ≤ 50000000) : Calls Try.prog 25 #[v, .int .i64 q] w (MrkE braiding_E braiding_mk braiding_sum w v x fp q) := by
  obtain ⟨p, t⟩ := x
  obtain ⟨a1, a2, a3, u2, F1, F2, rfl, h1, h2, h3, h4, h5, h6⟩ := h
  simp only at h1 h2
  have hn' : cocycle_tot p + tot2 t ≤ 1048576 := hn
  have hs1 := cocycle_sumle p
  have hs2 := sum2_le_tot2 t
  obtain ⟨A, n, c, z, D, m, e, hu, hz⟩ := cocycle_form (cocycle_rd h1)
  obtain ⟨rfl, rfl, rfl⟩ := agg3_inj hu
  clear hu hz
  obtain ⟨H, g, rfl, _⟩ := E2.sl2 h2
  go_enter Try.func25, Try.ntmps25
  go_wp2_with fail
  obtain ⟨W, hW⟩ : ∃ W, w.alloc (.cells #[.slice A n c, .int .i64 z, .slice D m e, .slice H t.length g] 37) = W := ⟨_, rfl⟩
  have hbW : Below w.heap.size w W := by rw [← hW]; exact (by repeat (first | assumption | exact Below.refl _ _ | apply below_drewN | apply Below.drew | apply Below.alloc | apply Below.setCell | omega | (focus (simp; done)) | (focus (simp; omega))))
  have bW : Blk W w.heap.size 37 #[.slice A n c, .int .i64 z, .slice D m e, .slice H t.length g] := by rw [← hW]; exact Blk.new _ _ _
  rw [hW]
  clear hW
  have k1 := cocycle_below h1 hbW
  have k2 := E2.below h2 hbW
  refine (cocycle_mark W _ p F1 q k1 (by omega) hq0 hq1).mono ?_
  rintro e1 w1 ⟨rfl, m1, hw1⟩
  have bW1 := hw1.blk bW (fun hf => by have := h6 _ (h4 _ hf); omega)
  have m2 : E2 w1 _ t F2 := kp2 _ _ _ _ _ k2 (fun b hb => hw1.block b (OwL.bd k2 b hb) (fun hf => h3 b hf hb)) hw1.size
  obtain ⟨q2, hq2⟩ : ∃ q2, q + (cocycle_sum p : Int) = q2 := ⟨_, rfl⟩
  rw [hq2]
  have hq20 : 0 ≤ q2 := by omega
  have hq21 : q2 ≤ 100000000 := by omega
  have HQ := hide hq2
  have x3 := bW1.cell 3
  clear hq2
  go_wp2_with fail
  refine (markInt64SS_any w1 _ t F2 q2 m2 (by have : totL List.length t = tot2 t := rfl; omega) hq20 (by omega)).mono ?_
  rintro e2 w2 ⟨rfl, m3, hw2⟩
  have m4 := cocycle_wr m1 hw2 (fun b a c => h3 b a c)
  have hsz := Nat.le_trans hbW.size (Nat.le_trans hw1.size hw2.size)
  have HM : braiding_E w2 (.agg #[.slice A n c, .int .i64 z, .slice D m e, .slice H t.length g]) (braiding_mk q (p, t)) fp := by
    refine ⟨_, _, _, _, F1, F2, rfl, m4, ?_, h3, h4, h5, fun b hb => Nat.lt_of_lt_of_le (h6 b hb) hsz⟩
    simp only [braiding_mk]
    rw [HQ.out]; exact m3
  obtain ⟨s, hs⟩ : ∃ s, q2 + (sum2 t : Int) = s := ⟨_, rfl⟩
  have hs' : q + (braiding_sum (p, t) : Int) = s := by have := HQ.out; unfold braiding_sum; simp only; omega
  rw [hs]
  have HS := hide hs'
  clear hs hs' x3
  go_wp2_with fail
  go_ret
  exact ⟨by rw [HS.out]; rfl, HM, ((Wr.of_below hbW).trans (hw1.mono h4)).trans (hw2.mono h5)⟩
set_option maxHeartbeats 2000000 in
theorem braiding_heldc (w : World) (v : Value) (x : braiding_T) (q : Int) (h : braiding_R w w.heap.size v x) (hs : braiding_Sh x) (hq0 : 0 ≤ q) (hq1 : q ≤ 50000000) : Calls Try.prog 26 #[v, .int .i64 q] w (Re w (.int .i64 (braiding_held q x))) := by
  obtain ⟨a1, a2, a3, H, l, g, rfl, h1, h2⟩ := h
  obtain ⟨p, t⟩ := x
  simp only at h1 h2 ⊢
  obtain rfl := h2.len
  have hs' : cocycle_tot p + tot2 t ≤ 1048576 := hs
  have hst : t.length ≤ 1048576 ∧ ∀ xs ∈ t, xs.length ≤ 1048576 := by
    have hx : tot2 t ≤ 1048576 := by omega
    refine ⟨by unfold tot2 totL at hx; omega, fun ys hy => ?_⟩
    have := totL_mem (f := List.length) hy
    unfold tot2 at hx
    omega
  have hs1 := cocycle_sumle p
  have hs2 := sum2_le_tot2 t
  have hge := cocycle_held_ge q p hq0
  have H1 := hide (fun W (hW : Below w.heap.size w W) => cocycle_heldc W _ p q (cocycle_keep h1 hW hW.size) (by unfold cocycle_Sh; unfold cocycle_tot at hs'; omega) hq0 hq1)
  obtain ⟨A, n, c, z, D, m, e, hu, hz⟩ := cocycle_form h1
  obtain ⟨rfl, rfl, rfl⟩ := agg3_inj hu
  clear hu hz h1
  obtain ⟨r, hr⟩ : ∃ r, cocycle_held q p = r := ⟨_, rfl⟩
  rw [hr] at H1 hge
  have HR := hide hr
  clear hr
  by_cases hr0 : r < 0
  · have hE := hide (show braiding_held q (p, t) = -1 by unfold braiding_held; simp only; rw [HR.out, if_pos hr0])
    go_enter Try.func26, Try.ntmps26
    go_wp2_with fail
    obtain ⟨W, hW⟩ : ∃ W, w.alloc (.cells #[.slice A n c, .int .i64 z, .slice D m e, .slice H t.length g] 37) = W := ⟨_, rfl⟩
    have hbW : Below w.heap.size w W := by rw [← hW]; exact (by repeat (first | assumption | exact Below.refl _ _ | apply below_drewN | apply Below.drew | apply Below.alloc | apply Below.setCell | omega | (focus (simp; done)) | (focus (simp; omega))))
    have bW : Blk W w.heap.size 37 #[.slice A n c, .int .i64 z, .slice D m e, .slice H t.length g] := by rw [← hW]; exact Blk.new _ _ _
    rw [hW]
    clear hW
    refine (H1.out _ hbW).mono ?_
    rintro e1 w1 ⟨rfl, hb1⟩
    have x3 := (hb1.cell (p := ⟨w.heap.size, 3, none⟩) bW.lt).trans (bW.cell 3)
    have hbW1 := hbW.trans (hb1.mono hbW.size)
    go_wp2_with fail
    go_ret
    exact ⟨by rw [hE.out]; rfl, hbW1⟩
  · have H2 := hide (fun W (hW : Below w.heap.size w W) => heldInt64SS_any W _ H t.length g t r (h2.below hW) hst.1 hst.2 (by have : (t.map List.length).sum = sum2 t := rfl; omega) (by omega) (by omega))
    have hge2 := held2_ge t r (by omega)
    have hE := show braiding_held q (p, t) = held2 r t by unfold braiding_held; simp only; rw [HR.out, if_neg hr0]
    have hd : heldL heldI r t = held2 r t := rfl
    rw [hd] at H2
    clear hd
    obtain ⟨s, hs⟩ : ∃ s, held2 r t = s := ⟨_, rfl⟩
    rw [hs] at H2 hge2 hE
    have HE := hide hE
    clear hs hE
    obtain ⟨hg1, hg2⟩ := hge2
    by_cases hs0 : s < 0
    · obtain rfl : s = -1 := by omega
      go_enter Try.func26, Try.ntmps26
      go_wp2_with fail
      obtain ⟨W, hW⟩ : ∃ W, w.alloc (.cells #[.slice A n c, .int .i64 z, .slice D m e, .slice H t.length g] 37) = W := ⟨_, rfl⟩
      have hbW : Below w.heap.size w W := by rw [← hW]; exact (by repeat (first | assumption | exact Below.refl _ _ | apply below_drewN | apply Below.drew | apply Below.alloc | apply Below.setCell | omega | (focus (simp; done)) | (focus (simp; omega))))
      have bW : Blk W w.heap.size 37 #[.slice A n c, .int .i64 z, .slice D m e, .slice H t.length g] := by rw [← hW]; exact Blk.new _ _ _
      rw [hW]
      clear hW
      refine (H1.out _ hbW).mono ?_
      rintro e1 w1 ⟨rfl, hb1⟩
      have x3 := (hb1.cell (p := ⟨w.heap.size, 3, none⟩) bW.lt).trans (bW.cell 3)
      have hbW1 := hbW.trans (hb1.mono hbW.size)
      go_wp2_with fail
      refine (H2.out _ hbW1).mono ?_
      rintro e2 w2 ⟨rfl, d2, rfl⟩
      go_wp2_with fail
      go_ret
      exact ⟨by rw [HE.out]; rfl, below_drewN hbW1 _⟩
    · skip
      go_enter Try.func26, Try.ntmps26
      go_wp2_with fail
      obtain ⟨W, hW⟩ : ∃ W, w.alloc (.cells #[.slice A n c, .int .i64 z, .slice D m e, .slice H t.length g] 37) = W := ⟨_, rfl⟩
      have hbW : Below w.heap.size w W := by rw [← hW]; exact (by repeat (first | assumption | exact Below.refl _ _ | apply below_drewN | apply Below.drew | apply Below.alloc | apply Below.setCell | omega | (focus (simp; done)) | (focus (simp; omega))))
      have bW : Blk W w.heap.size 37 #[.slice A n c, .int .i64 z, .slice D m e, .slice H t.length g] := by rw [← hW]; exact Blk.new _ _ _
      rw [hW]
      clear hW
      refine (H1.out _ hbW).mono ?_
      rintro e1 w1 ⟨rfl, hb1⟩
      have x3 := (hb1.cell (p := ⟨w.heap.size, 3, none⟩) bW.lt).trans (bW.cell 3)
      have hbW1 := hbW.trans (hb1.mono hbW.size)
      go_wp2_with fail
      refine (H2.out _ hbW1).mono ?_
      rintro e2 w2 ⟨rfl, d2, rfl⟩
      go_wp2_with fail
      go_ret
      exact ⟨by rw [HE.out]; rfl, below_drewN hbW1 _⟩
end Go.Proofs.Ythjlpgaoemdmkaa
