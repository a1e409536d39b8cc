
/- The kind of a condensation: leaders, a table, a modulus and values. -/
import Derived.Test.YtneflhachjlmkaaKD0
import Derived.Test.YtneflhachjlmkaaNW2
namespace Go.Proofs.Ytneflhachjlmkaa
open Go Go.RowKit
set_option linter.unusedSimpArgs false
set_option linter.unusedVariables false
set_option maxRecDepth 100000
abbrev quotient_T := List Int × List (List Int) × Int × List Int
def quotient_R (w : World) (B : Nat) (v : Value) (x : quotient_T) : Prop := ∃ A n c F p f D m e, v = .agg #[.slice A n c, .slice F p f, .int .i64 x.2.2.1, .slice D m e] ∧ Sl w B A n c x.1 ∧ Sl2 w B F p f x.2.1 ∧ Sl w B D m e x.2.2.2
def quotient_E : Own quotient_T := fun w v x fp => ∃ u1 u2 u3 F1 F2 F3, v = .agg #[u1, u2, .int .i64 x.2.2.1, u3] ∧ E1 w u1 x.1 F1 ∧ E2 w u2 x.2.1 F2 ∧ E1 w u3 x.2.2.2 F3 ∧ (∀ b, F1 b → F2 b → False) ∧ (∀ b, F1 b → F3 b → False) ∧ (∀ b, F2 b → F3 b → False) ∧ (∀ b, F1 b → fp b) ∧ (∀ b, F2 b → fp b) ∧ (∀ b, F3 b → fp b) ∧ (∀ b, fp b → b < w.heap.size)
def quotient_tot (x : quotient_T) : Nat := x.1.length + tot2 x.2.1 + x.2.2.2.length
def quotient_Sh (x : quotient_T) : Prop := quotient_tot x ≤ 1048576
def quotient_sum (x : quotient_T) : Nat := x.1.length + sum2 x.2.1 + x.2.2.2.length
def quotient_mk (q : Int) (x : quotient_T) : quotient_T := (mark1 q x.1, mark2 (q + x.1.length) x.2.1, x.2.2.1, mark1 (q + x.1.length + sum2 x.2.1) x.2.2.2)
def quotient_held (q : Int) (x : quotient_T) : Int := if heldI q x.1 < 0 then -1 else if held2 (heldI q x.1) x.2.1 < 0 then -1 else heldI (held2 (heldI q x.1) x.2.1) x.2.2.2
theorem q_sh2 {t : List (List Int)} (h : tot2 t ≤ 1048576) : t.length ≤ 1048576 ∧ ∀ xs ∈ t, xs.length ≤ 1048576 := by
  refine ⟨by unfold tot2 totL at h; omega, fun ys hy => ?_⟩
  have := totL_mem (f := List.length) hy
  unfold tot2 at h
  omega
theorem q_tot2 (q : Int) (t : List (List Int)) : tot2 (mark2 q t) = tot2 t := by
  have key : ∀ (xs : List (List Int)) q, totL List.length (markL mark1 List.length q xs) = totL List.length xs := by
    intro xs q
    unfold totL
    rw [markL_length]
    congr 1
    induction xs generalizing q with
    | nil => rfl
    | cons x r ih => simp only [markL, List.map_cons, List.sum_cons, ih]; unfold mark1; rw [marks_length]
  exact key t q
section
variable {w w' : World} {B B' : Nat} {v : Value} {x : quotient_T} {fp fq : Nat → Prop}
theorem quotient_form (h : quotient_R w B v x) : ∃ A n c F p f z D m e, v = .agg #[.slice A n c, .slice F p f, .int .i64 z, .slice D m e] ∧ x.2.2.1 = z := by
  obtain ⟨A, n, c, F, p, f, D, m, e, h1, _⟩ := h
  exact ⟨A, n, c, F, p, f, _, D, m, e, h1, rfl⟩
theorem quotient_keep (h : quotient_R w B v x) (hb : Below B w w') (hB : B ≤ B') : quotient_R w' B' v x := by
  obtain ⟨A, n, c, F, p, f, D, m, e, h1, h2, h3, h4⟩ := h
  exact ⟨A, n, c, F, p, f, D, m, e, h1, (h2.below hb).more hB, (h3.below hb).more hB, (h4.below hb).more hB⟩
theorem quotient_rd (h : quotient_E w v x fp) : quotient_R w w.heap.size v x := by
  obtain ⟨u1, u2, u3, F1, F2, F3, rfl, h1, h2, h3, _⟩ := h
  obtain ⟨A, c, rfl, hs⟩ := h1.sl
  obtain ⟨F, f, rfl, hs2⟩ := E2.sl2 h2
  obtain ⟨D, e, rfl, hs3⟩ := h3.sl
  exact ⟨A, _, c, F, _, f, D, _, e, rfl, hs, hs2, hs3⟩
theorem quotient_kp : Kp quotient_E := by
  intro w w' v x fp h hk hs
  obtain ⟨u1, u2, u3, F1, F2, F3, e, h1, h2, h3, a1, a2, a3, s1, s2, s3, hb⟩ := h
  exact ⟨u1, u2, u3, F1, F2, F3, e, kp1 _ _ _ _ _ h1 (fun b hb => hk b (s1 b hb)) hs, kp2 _ _ _ _ _ h2 (fun b hb => hk b (s2 b hb)) hs, kp1 _ _ _ _ _ h3 (fun b hb => hk b (s3 b hb)) hs, a1, a2, a3, s1, s2, s3, fun b h => Nat.lt_of_lt_of_le (hb b h) hs⟩
theorem quotient_bd (h : quotient_E w v x fp) : ∀ b, fp b → b < w.heap.size := by
  obtain ⟨_, _, _, _, _, _, _, _, _, _, _, _, _, _, _, _, h6⟩ := h
  exact h6
theorem quotient_below (h : quotient_E w v x fp) (hb : Below w.heap.size w w') : quotient_E w' v x fp := quotient_kp _ _ _ _ _ h (fun b hf => hb.block b (quotient_bd h b hf)) hb.size
theorem quotient_wr (h : quotient_E w v x fp) (hw : Wr w w' fq) (hd : ∀ b, fp b → fq b → False) : quotient_E w' v x fp := quotient_kp _ _ _ _ _ h (fun b hb => hw.block b (quotient_bd h b hb) (hd b hb)) hw.size
theorem quotient_sh (h : quotient_tot x ≤ 1048576) : quotient_Sh x := h
theorem quotient_sumle (x : quotient_T) : quotient_sum x ≤ quotient_tot x := by unfold quotient_sum quotient_tot; have := sum2_le_tot2 x.2.1; omega
theorem quotient_shmk {q : Int} (h : quotient_Sh x) : quotient_Sh (quotient_mk q x) := by
  unfold quotient_Sh quotient_tot quotient_mk at *
  simp only [mark1, marks_length, q_tot2]
  exact h
theorem quotient_heldmk1 : quotient_held 1 (quotient_mk 1 x) = 1 + (quotient_sum x : Int) := by
  unfold quotient_held quotient_mk quotient_sum
  simp only
  rw [heldI_mark1 1 x.1 (by omega), if_neg (by omega), held2_mark2 _ _ (by omega), if_neg (by omega)]
  unfold mark1
  rw [heldI_marks]
  omega
/-- A condensation with nothing in it. -/
theorem quotient_none (w : World) (fp : Nat → Prop) (hb : ∀ b, fp b → b < w.heap.size) (q : Int) : quotient_E w (.agg #[.slice none 0 0, .slice none 0 0, .int .i64 q, .slice none 0 0]) ([], [], q, []) fp := by
  have hn : ∀ b, False → b < w.heap.size := fun _ h => h.elim
  exact ⟨_, _, _, fun _ => False, fun _ => False, fun _ => False, rfl, E1.nil w _ hn, ⟨⟨[], fun _ _ => False, World.ownsRow_nil _ _ _ _, rfl, fun k u x h => by simp at h, fun _ _ _ h => h.elim, fun _ _ h => h.elim⟩, fun b hb => by simp [Value.ownBlock] at hb, hn⟩, E1.nil w _ hn, fun _ h => h.elim, fun _ h => h.elim, fun _ h => h.elim, fun _ h => h.elim, fun _ h => h.elim, fun _ h => h.elim, hb⟩
end
set_option maxHeartbeats 4000000 in
theorem quotient_eq (w : World) (v v' : Value) (x y : quotient_T) (h : quotient_R w w.heap.size v x) (h' : quotient_R w w.heap.size v' y) (hs : quotient_Sh x) : Calls Try.prog 27 #[v, v'] w (Re w (.bool (x == y))) := by
  obtain ⟨A, n, c, F, p, f, D, m, e, rfl, h1, h2, h3⟩ := h
  obtain ⟨A', n', c', F', p', f', D', m', e', rfl, k1, k2, k3⟩ := h'
  obtain ⟨os, t, z, vs⟩ := x
  obtain ⟨os', t', z', vs'⟩ := y
  simp only at h1 h2 h3 k1 k2 k3 ⊢
  obtain rfl := h1.len
  obtain rfl := h2.len
  obtain rfl := h3.len
  have hs' : os.length + tot2 t + vs.length ≤ 1048576 := hs
  have hst := q_sh2 (t := t) (by omega)
  have H1 := hide (fun W (hW : Below w.heap.size w W) => eqInt64S_any W _ _ A A' os.length n' c c' os os' (h1.below hW) (k1.below hW) (by omega))
  have H2 := hide (fun W (hW : Below w.heap.size w W) => eqInt64SS_any W _ _ F F' t.length p' f f' t t' (h2.below hW) (k2.below hW) hst.1 hst.2)
  have H3 := hide (fun W (hW : Below w.heap.size w W) => eqInt64S_any W _ _ D D' vs.length m' e e' vs vs' (h3.below hW) (k3.below hW) (by omega))
  have hE : ((os, t, z, vs) == (os', t', z', vs')) = (os == os' && (t == t' && (z == z' && vs == vs'))) := rfl
  rw [hE]
  clear hE
  obtain ⟨r1, hr1⟩ : ∃ r, (os == os') = r := ⟨_, rfl⟩
  obtain ⟨r2, hr2⟩ : ∃ r, (t == t') = r := ⟨_, rfl⟩
  obtain ⟨r3, hr3⟩ : ∃ r, (z == z') = r := ⟨_, rfl⟩
  obtain ⟨r4, hr4⟩ : ∃ r, (vs == vs') = r := ⟨_, rfl⟩
  rw [hr1] at H1
  rw [hr2] at H2
  rw [hr4] at H3
  rw [hr1, hr2, hr3, hr4]
  have hq : (z != z') = !r3 := by simp [bne, hr3]
  clear hr1 hr2 hr3 hr4
  cases r1
  · skip
    go_enter Try.func27, Try.ntmps27
    go_wp2_with fail
    obtain ⟨W, hW⟩ : ∃ W, (w.alloc (.cells #[.slice A os.length c, .slice F t.length f, .int .i64 z, .slice D vs.length e] 40)).alloc (.cells #[.slice A' n' c', .slice F' p' f', .int .i64 z', .slice D' m' e'] 40) = W := ⟨_, rfl⟩
    have hbW : Below w.heap.size w W := by rw [← hW]; exact (by repeat (first | assumption | exact Below.refl _ _ | apply below_drewN | apply Below.drew | apply Below.alloc | apply Below.setCell | omega | (focus (simp; done)) | (focus (simp; omega))))
    have b1 : Blk W w.heap.size 40 #[.slice A os.length c, .slice F t.length f, .int .i64 z, .slice D vs.length e] := by rw [← hW]; exact (Blk.new _ _ _).alloc _
    have b2 : Blk W (w.heap.size + 1) 40 #[.slice A' n' c', .slice F' p' f', .int .i64 z', .slice D' m' e'] := by rw [← hW]; exact Blk.new' _ _ _ _ (by simp)
    have x1 := b1.cell 1
    have x2 := b1.cell 2
    have x3 := b1.cell 3
    have y1 := b2.cell 1
    have y2 := b2.cell 2
    have y3 := b2.cell 3
    rw [hW]
    clear hW
    refine (H1.out _ hbW).mono ?_
    rintro e1 w1 ⟨rfl, d, rfl⟩
    go_wp2_with fail
    go_ret
    exact ⟨rfl, below_drewN hbW _⟩
  · cases r2
    · skip
      go_enter Try.func27, Try.ntmps27
      go_wp2_with fail
      obtain ⟨W, hW⟩ : ∃ W, (w.alloc (.cells #[.slice A os.length c, .slice F t.length f, .int .i64 z, .slice D vs.length e] 40)).alloc (.cells #[.slice A' n' c', .slice F' p' f', .int .i64 z', .slice D' m' e'] 40) = W := ⟨_, rfl⟩
      have hbW : Below w.heap.size w W := by rw [← hW]; exact (by repeat (first | assumption | exact Below.refl _ _ | apply below_drewN | apply Below.drew | apply Below.alloc | apply Below.setCell | omega | (focus (simp; done)) | (focus (simp; omega))))
      have b1 : Blk W w.heap.size 40 #[.slice A os.length c, .slice F t.length f, .int .i64 z, .slice D vs.length e] := by rw [← hW]; exact (Blk.new _ _ _).alloc _
      have b2 : Blk W (w.heap.size + 1) 40 #[.slice A' n' c', .slice F' p' f', .int .i64 z', .slice D' m' e'] := by rw [← hW]; exact Blk.new' _ _ _ _ (by simp)
      have x1 := b1.cell 1
      have x2 := b1.cell 2
      have x3 := b1.cell 3
      have y1 := b2.cell 1
      have y2 := b2.cell 2
      have y3 := b2.cell 3
      rw [hW]
      clear hW
      refine (H1.out _ hbW).mono ?_
      rintro e1 w1 ⟨rfl, d, rfl⟩
      go_wp2_with fail
      refine (H2.out _ (below_drewN hbW _)).mono ?_
      rintro e1 w1 ⟨rfl, d2, rfl⟩
      go_wp2_with fail
      go_ret
      exact ⟨rfl, below_drewN hbW _⟩
    · cases r3
      · simp only [Bool.not_false] at hq
        go_enter Try.func27, Try.ntmps27
        go_wp2_with fail
        obtain ⟨W, hW⟩ : ∃ W, (w.alloc (.cells #[.slice A os.length c, .slice F t.length f, .int .i64 z, .slice D vs.length e] 40)).alloc (.cells #[.slice A' n' c', .slice F' p' f', .int .i64 z', .slice D' m' e'] 40) = W := ⟨_, rfl⟩
        have hbW : Below w.heap.size w W := by rw [← hW]; exact (by repeat (first | assumption | exact Below.refl _ _ | apply below_drewN | apply Below.drew | apply Below.alloc | apply Below.setCell | omega | (focus (simp; done)) | (focus (simp; omega))))
        have b1 : Blk W w.heap.size 40 #[.slice A os.length c, .slice F t.length f, .int .i64 z, .slice D vs.length e] := by rw [← hW]; exact (Blk.new _ _ _).alloc _
        have b2 : Blk W (w.heap.size + 1) 40 #[.slice A' n' c', .slice F' p' f', .int .i64 z', .slice D' m' e'] := by rw [← hW]; exact Blk.new' _ _ _ _ (by simp)
        have x1 := b1.cell 1
        have x2 := b1.cell 2
        have x3 := b1.cell 3
        have y1 := b2.cell 1
        have y2 := b2.cell 2
        have y3 := b2.cell 3
        rw [hW]
        clear hW
        refine (H1.out _ hbW).mono ?_
        rintro e1 w1 ⟨rfl, d, rfl⟩
        go_wp2_with fail
        refine (H2.out _ (below_drewN hbW _)).mono ?_
        rintro e1 w1 ⟨rfl, d2, rfl⟩
        go_wp2_with fail
        go_ret
        exact ⟨rfl, below_drewN hbW _⟩
      · simp only [Bool.not_true] at hq
        cases r4
        all_goals
          go_enter Try.func27, Try.ntmps27
          go_wp2_with fail
          obtain ⟨W, hW⟩ : ∃ W, (w.alloc (.cells #[.slice A os.length c, .slice F t.length f, .int .i64 z, .slice D vs.length e] 40)).alloc (.cells #[.slice A' n' c', .slice F' p' f', .int .i64 z', .slice D' m' e'] 40) = W := ⟨_, rfl⟩
          have hbW : Below w.heap.size w W := by rw [← hW]; exact (by repeat (first | assumption | exact Below.refl _ _ | apply below_drewN | apply Below.drew | apply Below.alloc | apply Below.setCell | omega | (focus (simp; done)) | (focus (simp; omega))))
          have b1 : Blk W w.heap.size 40 #[.slice A os.length c, .slice F t.length f, .int .i64 z, .slice D vs.length e] := by rw [← hW]; exact (Blk.new _ _ _).alloc _
          have b2 : Blk W (w.heap.size + 1) 40 #[.slice A' n' c', .slice F' p' f', .int .i64 z', .slice D' m' e'] := by rw [← hW]; exact Blk.new' _ _ _ _ (by simp)
          have x1 := b1.cell 1
          have x2 := b1.cell 2
          have x3 := b1.cell 3
          have y1 := b2.cell 1
          have y2 := b2.cell 2
          have y3 := b2.cell 3
          rw [hW]
          clear hW
          refine (H1.out _ hbW).mono ?_
          rintro e1 w1 ⟨rfl, d, rfl⟩
          go_wp2_with fail
          refine (H2.out _ (below_drewN hbW _)).mono ?_
          rintro e1 w1 ⟨rfl, d2, rfl⟩
          go_wp2_with fail
          refine (H3.out _ (below_drewN hbW _)).mono ?_
          rintro e1 w1 ⟨rfl, d3, rfl⟩
          go_wp2_with fail
          go_ret
          exact ⟨rfl, below_drewN hbW _⟩
set_option maxHeartbeats 4000000 in
theorem quotient_mark (w : World) (v : Value) (x : quotient_T) (fp : Nat → Prop) (q : Int) (h : quotient_E w v x fp) (hn : quotient_tot x ≤ 1048576) (hq0 : 0 ≤ q) (hq1 : q ≤ 50000000) : Calls Try.prog 28 #[v, .int .i64 q] w (MrkE quotient_E quotient_mk quotient_sum w v x fp q) := by
  obtain ⟨os, t, z, vs⟩ := x
  obtain ⟨u1, u2, u3, F1, F2, F3, e0, h1, h2, h3, d1, d2, d3, s1, s2, s3, h6⟩ := h
  simp only at e0 h1 h2 h3
  subst e0
  have hn' : os.length + tot2 t + vs.length ≤ 1048576 := hn
  have hs2 := sum2_le_tot2 t
  obtain ⟨A1, c1, rfl, _⟩ := h1.sl
  obtain ⟨A2, c2, rfl, _⟩ := E2.sl2 h2
  obtain ⟨A3, c3, rfl, _⟩ := h3.sl
  go_enter Try.func28, Try.ntmps28
  go_wp2_with fail
  obtain ⟨W, hW⟩ : ∃ W, w.alloc (.cells #[.slice A1 os.length c1, .slice A2 t.length c2, .int .i64 z, .slice A3 vs.length c3] 40) = W := ⟨_, rfl⟩
  have hbW : Below w.heap.size w W := by rw [← hW]; exact (by repeat (first | assumption | exact Below.refl _ _ | apply below_drewN | apply Below.drew | apply Below.alloc | apply Below.setCell | omega | (focus (simp; done)) | (focus (simp; omega))))
  have bW : Blk W w.heap.size 40 #[.slice A1 os.length c1, .slice A2 t.length c2, .int .i64 z, .slice A3 vs.length c3] := by rw [← hW]; exact Blk.new _ _ _
  rw [hW]
  clear hW
  have k1 := E1.below h1 hbW
  have k2 := E2.below h2 hbW
  have k3 := E1.below h3 hbW
  refine ((markInt64S_any W 0 _ q os k1.own (by omega) hq0 (by omega)).mono fun _ _ h => mrkE1 h k1 hq0 (by omega) (by omega)).mono ?_
  rintro e w1 ⟨rfl, m1, hw1⟩
  have bW1 := hw1.blk bW (fun hf => by have := h6 _ (s1 _ hf); omega)
  have m2 : E2 w1 _ t F2 := kp2 _ _ _ _ _ k2 (fun b hb => hw1.block b (OwL.bd k2 b hb) (fun hf => d1 b hf hb)) hw1.size
  have m3 : E1 w1 _ vs F3 := kp1 _ _ _ _ _ k3 (fun b hb => hw1.block b (k3.bd b hb) (fun hf => d2 b hf hb)) hw1.size
  obtain ⟨q2, hq2⟩ : ∃ q2, q + (os.length : Int) = q2 := ⟨_, rfl⟩
  rw [hq2]
  have hq20 : 0 ≤ q2 := by omega
  have hq21 : q2 ≤ 52000000 := by omega
  have HQ := hide hq2
  have x1 := bW1.cell 1
  clear hq2
  go_wp2_with fail
  clear x1
  refine (markInt64SS_any w1 _ t F2 q2 m2 (by have : totL List.length t = tot2 t := rfl; omega) hq20 (by omega)).mono ?_
  rintro e2 w2 ⟨rfl, m4, hw2⟩
  have bW2 := hw2.blk bW1 (fun hf => by have := h6 _ (s2 _ hf); omega)
  have m5 : E1 w2 _ (mark1 q os) F1 := kp1 _ _ _ _ _ m1 (fun b hb => hw2.block b (m1.bd b hb) (fun hf => d1 b hb hf)) hw2.size
  have m6 : E1 w2 _ vs F3 := kp1 _ _ _ _ _ m3 (fun b hb => hw2.block b (m3.bd b hb) (fun hf => d3 b hf hb)) hw2.size
  obtain ⟨q3, hq3⟩ : ∃ q3, q2 + (sum2 t : Int) = q3 := ⟨_, rfl⟩
  rw [hq3]
  have hq30 : 0 ≤ q3 := by omega
  have hq31 : q3 ≤ 60000000 := by omega
  have HQ3 := hide hq3
  have x3 := bW2.cell 3
  clear hq3
  go_wp2_with fail
  refine ((markInt64S_any w2 0 _ q3 vs m6.own (by omega) hq30 (by omega)).mono fun _ _ h => mrkE1 h m6 hq30 (by omega) (by omega)).mono ?_
  rintro e w3 ⟨rfl, m7, hw3⟩
  have m8 : E1 w3 _ (mark1 q os) F1 := kp1 _ _ _ _ _ m5 (fun b hb => hw3.block b (m5.bd b hb) (fun hf => d2 b hb hf)) hw3.size
  have m9 : E2 w3 _ (mark2 q2 t) F2 := kp2 _ _ _ _ _ m4 (fun b hb => hw3.block b (OwL.bd m4 b hb) (fun hf => d3 b hb hf)) hw3.size
  have hsz := Nat.le_trans hbW.size (Nat.le_trans hw1.size (Nat.le_trans hw2.size hw3.size))
  have HM : quotient_E w3 (.agg #[.slice A1 os.length c1, .slice A2 t.length c2, .int .i64 z, .slice A3 vs.length c3]) (quotient_mk q (os, t, z, vs)) fp := by
    refine ⟨_, _, _, F1, F2, F3, rfl, m8, ?_, ?_, d1, d2, d3, s1, s2, s3, fun b hb => Nat.lt_of_lt_of_le (h6 b hb) hsz⟩
    · simp only [quotient_mk]
      rw [HQ.out]; exact m9
    · simp only [quotient_mk]
      rw [HQ.out, HQ3.out]; exact m7
  obtain ⟨s, hs⟩ : ∃ s, q3 + (vs.length : Int) = s := ⟨_, rfl⟩
  have hs' : q + (quotient_sum (os, t, z, vs) : Int) = s := by have := HQ.out; have := HQ3.out; unfold quotient_sum; simp only; omega
  rw [hs]
  have HS := hide hs'
  clear hs hs' x3
  go_wp2_with fail
  go_ret
  exact ⟨by rw [HS.out]; rfl, HM, (((Wr.of_below hbW).trans (hw1.mono s1)).trans (hw2.mono s2)).trans (hw3.mono s3)⟩
set_option maxHeartbeats 4000000 in
theorem quotient_heldc (w : World) (v : Value) (x : quotient_T) (q : Int) (h : quotient_R w w.heap.size v x) (hs : quotient_Sh x) (hq0 : 0 ≤ q) (hq1 : q ≤ 50000000) : Calls Try.prog 29 #[v, .int .i64 q] w (Re w (.int .i64 (quotient_held q x))) := by
  obtain ⟨A, n, c, F, p, f, D, m, e, rfl, h1, h2, h3⟩ := h
  obtain ⟨os, t, z, vs⟩ := x
  simp only at h1 h2 h3 ⊢
  obtain rfl := h1.len
  obtain rfl := h2.len
  obtain rfl := h3.len
  have hs' : os.length + tot2 t + vs.length ≤ 1048576 := hs
  have hst := q_sh2 (t := t) (by omega)
  have hsum := sum2_le_tot2 t
  have hge := heldI_ge os q hq0
  have H1 := hide (fun W (hW : Below w.heap.size w W) => heldInt64S_any W _ A os.length c q os (h1.below hW) (by omega) hq0 (by omega))
  obtain ⟨r, hr⟩ : ∃ r, heldI q os = r := ⟨_, rfl⟩
  rw [hr] at H1 hge
  have HR := hide hr
  clear hr
  by_cases hr0 : r < 0
  · have hE := hide (show quotient_held q (os, t, z, vs) = -1 by unfold quotient_held; simp only; rw [HR.out, if_pos hr0])
    go_enter Try.func29, Try.ntmps29
    go_wp2_with fail
    obtain ⟨W, hW⟩ : ∃ W, w.alloc (.cells #[.slice A os.length c, .slice F t.length f, .int .i64 z, .slice D vs.length e] 40) = W := ⟨_, rfl⟩
    have hbW : Below w.heap.size w W := by rw [← hW]; exact (by repeat (first | assumption | exact Below.refl _ _ | apply below_drewN | apply Below.drew | apply Below.alloc | apply Below.setCell | omega | (focus (simp; done)) | (focus (simp; omega))))
    have q1 : W.cell? ⟨w.heap.size, 1, none⟩ = some (.slice F t.length f) := by rw [← hW]; exact (Blk.new _ _ _).cell 1
    have q3 : W.cell? ⟨w.heap.size, 3, none⟩ = some (.slice D vs.length e) := by rw [← hW]; exact (Blk.new _ _ _).cell 3
    rw [hW]
    clear hW
    refine (H1.out _ hbW).mono ?_
    rintro e w1 ⟨rfl, d, rfl⟩
    go_wp2_with fail
    go_ret
    exact ⟨by rw [hE.out]; rfl, below_drewN hbW _⟩
  · have H2 := hide (fun W (hW : Below w.heap.size w W) => heldInt64SS_any W _ F t.length f t r (h2.below hW) hst.1 hst.2 (by have : (t.map List.length).sum = sum2 t := rfl; omega) (by omega) (by omega))
    have hge2 := held2_ge t r (by omega)
    have hd : heldL heldI r t = held2 r t := rfl
    rw [hd] at H2
    clear hd
    obtain ⟨s, hs2⟩ : ∃ s, held2 r t = s := ⟨_, rfl⟩
    rw [hs2] at H2 hge2
    have HS := hide hs2
    clear hs2
    obtain ⟨hg1, hg2⟩ := hge2
    by_cases hs0 : s < 0
    · have hE := hide (show quotient_held q (os, t, z, vs) = -1 by unfold quotient_held; simp only; rw [HR.out, if_neg hr0, HS.out, if_pos hs0])
      go_enter Try.func29, Try.ntmps29
      go_wp2_with fail
      obtain ⟨W, hW⟩ : ∃ W, w.alloc (.cells #[.slice A os.length c, .slice F t.length f, .int .i64 z, .slice D vs.length e] 40) = W := ⟨_, rfl⟩
      have hbW : Below w.heap.size w W := by rw [← hW]; exact (by repeat (first | assumption | exact Below.refl _ _ | apply below_drewN | apply Below.drew | apply Below.alloc | apply Below.setCell | omega | (focus (simp; done)) | (focus (simp; omega))))
      have q1 : W.cell? ⟨w.heap.size, 1, none⟩ = some (.slice F t.length f) := by rw [← hW]; exact (Blk.new _ _ _).cell 1
      have q3 : W.cell? ⟨w.heap.size, 3, none⟩ = some (.slice D vs.length e) := by rw [← hW]; exact (Blk.new _ _ _).cell 3
      rw [hW]
      clear hW
      refine (H1.out _ hbW).mono ?_
      rintro e w1 ⟨rfl, d, rfl⟩
      go_wp2_with fail
      refine (H2.out _ (below_drewN hbW _)).mono ?_
      rintro e w1 ⟨rfl, d2, rfl⟩
      go_wp2_with fail
      go_ret
      exact ⟨by rw [hE.out]; rfl, below_drewN hbW _⟩
    · have H3 := hide (fun W (hW : Below w.heap.size w W) => heldInt64S_any W _ D vs.length e s vs (h3.below hW) (by omega) (by omega) (by omega))
      have hge3 := heldI_ge vs s (by omega)
      have hE := show quotient_held q (os, t, z, vs) = heldI s vs by unfold quotient_held; simp only; rw [HR.out, if_neg hr0, HS.out, if_neg hs0]
      obtain ⟨y, hy⟩ : ∃ y, heldI s vs = y := ⟨_, rfl⟩
      rw [hy] at H3 hge3 hE
      have HE := hide hE
      clear hy hE
      by_cases hy0 : y < 0
      · obtain rfl : y = -1 := by omega
        go_enter Try.func29, Try.ntmps29
        go_wp2_with fail
        obtain ⟨W, hW⟩ : ∃ W, w.alloc (.cells #[.slice A os.length c, .slice F t.length f, .int .i64 z, .slice D vs.length e] 40) = W := ⟨_, rfl⟩
        have hbW : Below w.heap.size w W := by rw [← hW]; exact (by repeat (first | assumption | exact Below.refl _ _ | apply below_drewN | apply Below.drew | apply Below.alloc | apply Below.setCell | omega | (focus (simp; done)) | (focus (simp; omega))))
        have q1 : W.cell? ⟨w.heap.size, 1, none⟩ = some (.slice F t.length f) := by rw [← hW]; exact (Blk.new _ _ _).cell 1
        have q3 : W.cell? ⟨w.heap.size, 3, none⟩ = some (.slice D vs.length e) := by rw [← hW]; exact (Blk.new _ _ _).cell 3
        rw [hW]
        clear hW
        refine (H1.out _ hbW).mono ?_
        rintro e w1 ⟨rfl, d, rfl⟩
        go_wp2_with fail
        refine (H2.out _ (below_drewN hbW _)).mono ?_
        rintro e w1 ⟨rfl, d2, rfl⟩
        go_wp2_with fail
        refine (H3.out _ (below_drewN hbW _)).mono ?_
        rintro e w1 ⟨rfl, d3, rfl⟩
        go_wp2_with fail
        go_ret
        exact ⟨by rw [HE.out]; rfl, below_drewN hbW _⟩
      · skip
        go_enter Try.func29, Try.ntmps29
        go_wp2_with fail
        obtain ⟨W, hW⟩ : ∃ W, w.alloc (.cells #[.slice A os.length c, .slice F t.length f, .int .i64 z, .slice D vs.length e] 40) = W := ⟨_, rfl⟩
        have hbW : Below w.heap.size w W := by rw [← hW]; exact (by repeat (first | assumption | exact Below.refl _ _ | apply below_drewN | apply Below.drew | apply Below.alloc | apply Below.setCell | omega | (focus (simp; done)) | (focus (simp; omega))))
        have q1 : W.cell? ⟨w.heap.size, 1, none⟩ = some (.slice F t.length f) := by rw [← hW]; exact (Blk.new _ _ _).cell 1
        have q3 : W.cell? ⟨w.heap.size, 3, none⟩ = some (.slice D vs.length e) := by rw [← hW]; exact (Blk.new _ _ _).cell 3
        rw [hW]
        clear hW
        refine (H1.out _ hbW).mono ?_
        rintro e w1 ⟨rfl, d, rfl⟩
        go_wp2_with fail
        refine (H2.out _ (below_drewN hbW _)).mono ?_
        rintro e w1 ⟨rfl, d2, rfl⟩
        go_wp2_with fail
        refine (H3.out _ (below_drewN hbW _)).mono ?_
        rintro e w1 ⟨rfl, d3, rfl⟩
        go_wp2_with fail
        go_ret
        exact ⟨by rw [HE.out]; rfl, below_drewN hbW _⟩
end Go.Proofs.Ytneflhachjlmkaa
