
/- The kind of data: rows S and numbers T. Data under construction: a list of rows and a list of numbers beside a block that holds both. -/
import Derived.Test.YtlhfjfpgoaiijaaKD0
import Derived.Test.YtlhfjfpgoaiijaaNW2
import Derived.Test.YtlhfjfpgoaiijaaDm2
import Derived.WalkLawsBesides
namespace Go.Proofs.Ytlhfjfpgoaiijaa
open Go Go.RowKit Grp
set_option linter.unusedSimpArgs false
set_option linter.unusedVariables false
set_option maxRecDepth 100000
abbrev data_T := List (List Int) × List Int
def data_R (w : World) (B : Nat) (v : Value) (x : data_T) : Prop := ∃ A n c D m e, v = .agg #[.slice A n c, .slice D m e] ∧ Sl2 w B A n c x.1 ∧ Sl w B D m e x.2
def data_E : Own data_T := fun w v x fp => ∃ u1 u2 F1 F2, v = .agg #[u1, u2] ∧ E2 w u1 x.1 F1 ∧ E1 w u2 x.2 F2 ∧ (∀ b, F1 b → F2 b → False) ∧ (∀ b, F1 b → fp b) ∧ (∀ b, F2 b → fp b) ∧ ∀ b, fp b → b < w.heap.size
def data_tot (x : data_T) : Nat := tot2 x.1 + x.2.length
def data_Sh (x : data_T) : Prop := data_tot x ≤ 1048576
def data_sum (x : data_T) : Nat := sum2 x.1 + x.2.length
def data_mk (q : Int) (x : data_T) : data_T := (mark2 q x.1, mark1 (q + sum2 x.1) x.2)
def data_held (q : Int) (x : data_T) : Int := if held2 q x.1 < 0 then -1 else heldI (held2 q x.1) x.2
theorem d_sh2 {t : List (List Int)} (h : tot2 t ≤ 1048576) : t.length ≤ 1048576 ∧ ∀ xs ∈ t, xs.length ≤ 1048576 := by
  refine ⟨by unfold tot2 totL at h; omega, fun ys hy => ?_⟩
  have := totL_mem (f := List.length) hy
  unfold tot2 at h
  omega
theorem d_tot2 (q : Int) (t : List (List Int)) : tot2 (mark2 q t) = tot2 t := by
  have key : ∀ (xs : List (List Int)) q, totL List.length (markL mark1 List.length q xs) = totL List.length xs := by
    intro xs q
    unfold totL
    rw [markL_length]
    congr 1
    induction xs generalizing q with
    | nil => rfl
    | cons x r ih => simp only [markL, List.map_cons, List.sum_cons, ih]; unfold mark1; rw [marks_length]
  exact key t q
section
variable {w w' : World} {B B' : Nat} {v : Value} {x : data_T} {fp fq : Nat → Prop}
theorem data_form (h : data_R w B v x) : ∃ A n c D m e, v = .agg #[.slice A n c, .slice D m e] ∧ True := by
  obtain ⟨A, n, c, D, m, e, h1, _⟩ := h
  exact ⟨A, n, c, D, m, e, h1, trivial⟩
theorem data_keep (h : data_R w B v x) (hb : Below B w w') (hB : B ≤ B') : data_R w' B' v x := by
  obtain ⟨A, n, c, D, m, e, h1, h2, h3⟩ := h
  exact ⟨A, n, c, D, m, e, h1, (h2.below hb).more hB, (h3.below hb).more hB⟩
theorem data_rd (h : data_E w v x fp) : data_R w w.heap.size v x := by
  obtain ⟨u1, u2, F1, F2, rfl, h1, h2, _⟩ := h
  obtain ⟨F, f, rfl, hs1⟩ := E2.sl2 h1
  obtain ⟨D, e, rfl, hs2⟩ := h2.sl
  exact ⟨F, _, f, D, _, e, rfl, hs1, hs2⟩
theorem data_kp : Kp data_E := by
  intro w w' v x fp h hk hs
  obtain ⟨u1, u2, F1, F2, e, h1, h2, a1, s1, s2, hb⟩ := h
  exact ⟨u1, u2, F1, F2, e, kp2 _ _ _ _ _ h1 (fun b hb => hk b (s1 b hb)) hs, kp1 _ _ _ _ _ h2 (fun b hb => hk b (s2 b hb)) hs, a1, s1, s2, fun b hf => Nat.lt_of_lt_of_le (hb b hf) hs⟩
theorem data_bd (h : data_E w v x fp) : ∀ b, fp b → b < w.heap.size := by
  obtain ⟨_, _, _, _, _, _, _, _, _, _, h6⟩ := h
  exact h6
theorem data_below (h : data_E w v x fp) (hb : Below w.heap.size w w') : data_E w' v x fp := data_kp _ _ _ _ _ h (fun b hf => hb.block b (data_bd h b hf)) hb.size
theorem data_wr (h : data_E w v x fp) (hw : Wr w w' fq) (hd : ∀ b, fp b → fq b → False) : data_E w' v x fp := data_kp _ _ _ _ _ h (fun b hb => hw.block b (data_bd h b hb) (hd b hb)) hw.size
theorem data_sh (h : data_tot x ≤ 1048576) : data_Sh x := h
theorem data_sumle (x : data_T) : data_sum x ≤ data_tot x := by unfold data_sum data_tot; have := sum2_le_tot2 x.1; omega
theorem data_shmk {q : Int} (h : data_Sh x) : data_Sh (data_mk q x) := by
  unfold data_Sh data_tot data_mk at *
  simp only [mark1, marks_length, d_tot2]
  exact h
theorem data_heldmk1 : data_held 1 (data_mk 1 x) = 1 + (data_sum x : Int) := by
  unfold data_held data_mk data_sum
  simp only
  rw [held2_mark2 _ _ (by omega), if_neg (by omega)]
  unfold mark1
  rw [heldI_marks]
  omega
/-- Data with nothing in it. -/
theorem data_none (w : World) (fp : Nat → Prop) (hb : ∀ b, fp b → b < w.heap.size) : data_E w (.agg #[.slice none 0 0, .slice none 0 0]) ([], []) fp := by
  have hn : ∀ b, False → b < w.heap.size := fun _ h => h.elim
  exact ⟨_, _, fun _ => False, fun _ => False, rfl, ⟨⟨[], fun _ _ => False, World.ownsRow_nil _ _ _ _, rfl, fun k u x h => by simp at h, fun _ _ _ h => h.elim, fun _ _ h => h.elim⟩, fun b hb => by simp [Value.ownBlock] at hb, hn⟩, E1.nil w _ hn, fun _ h => h.elim, fun _ h => h.elim, fun _ h => h.elim, hb⟩
end
set_option maxHeartbeats 4000000 in
theorem data_eq (w : World) (v v' : Value) (x y : data_T) (h : data_R w w.heap.size v x) (h' : data_R w w.heap.size v' y) (hs : data_Sh x) : Calls Try.prog 8 #[v, v'] w (Re w (.bool (x == y))) := by
  obtain ⟨F, p, f, D, m, e, rfl, h2, h3⟩ := h
  obtain ⟨F', p', f', D', m', e', rfl, k2, k3⟩ := h'
  obtain ⟨t, vs⟩ := x
  obtain ⟨t', vs'⟩ := y
  simp only at h2 h3 k2 k3 ⊢
  obtain rfl := h2.len
  obtain rfl := h3.len
  have hs' : tot2 t + vs.length ≤ 1048576 := hs
  have hst := d_sh2 (t := t) (by omega)
  have H2 := hide (fun W (hW : Below w.heap.size w W) => eqInt64SS_any W _ _ F F' t.length p' f f' t t' (h2.below hW) (k2.below hW) hst.1 hst.2)
  have H3 := hide (fun W (hW : Below w.heap.size w W) => eqInt64S_any W _ _ D D' vs.length m' e e' vs vs' (h3.below hW) (k3.below hW) (by omega))
  have hE : ((t, vs) == (t', vs')) = (t == t' && vs == vs') := rfl
  rw [hE]
  clear hE
  obtain ⟨r2, hr2⟩ : ∃ r, (t == t') = r := ⟨_, rfl⟩
  obtain ⟨r4, hr4⟩ : ∃ r, (vs == vs') = r := ⟨_, rfl⟩
  rw [hr2] at H2
  rw [hr4] at H3
  rw [hr2, hr4]
  clear hr2 hr4
  cases r2
  · skip
    go_enter Try.func8, Try.ntmps8
    go_wp2_with fail
    obtain ⟨W, hW⟩ : ∃ W, (w.alloc (.cells #[.slice F t.length f, .slice D vs.length e] 28)).alloc (.cells #[.slice F' p' f', .slice D' m' e'] 28) = W := ⟨_, rfl⟩
    have hbW : Below w.heap.size w W := by rw [← hW]; exact (by repeat (first | assumption | exact Below.refl _ _ | apply below_drewN | apply Below.drew | apply Below.alloc | apply Below.setCell | omega | (focus (simp; done)) | (focus (simp; omega))))
    have b1 : Blk W w.heap.size 28 #[.slice F t.length f, .slice D vs.length e] := by rw [← hW]; exact (Blk.new _ _ _).alloc _
    have b2 : Blk W (w.heap.size + 1) 28 #[.slice F' p' f', .slice D' m' e'] := by rw [← hW]; exact Blk.new' _ _ _ _ (by simp)
    have x1 := b1.cell 1
    have y1 := b2.cell 1
    rw [hW]
    clear hW
    refine (H2.out _ hbW).mono ?_
    rintro e1 w1 ⟨rfl, d, rfl⟩
    go_wp2_with fail
    go_ret
    exact ⟨rfl, below_drewN hbW _⟩
  · cases r4
    all_goals
      go_enter Try.func8, Try.ntmps8
      go_wp2_with fail
      obtain ⟨W, hW⟩ : ∃ W, (w.alloc (.cells #[.slice F t.length f, .slice D vs.length e] 28)).alloc (.cells #[.slice F' p' f', .slice D' m' e'] 28) = W := ⟨_, rfl⟩
      have hbW : Below w.heap.size w W := by rw [← hW]; exact (by repeat (first | assumption | exact Below.refl _ _ | apply below_drewN | apply Below.drew | apply Below.alloc | apply Below.setCell | omega | (focus (simp; done)) | (focus (simp; omega))))
      have b1 : Blk W w.heap.size 28 #[.slice F t.length f, .slice D vs.length e] := by rw [← hW]; exact (Blk.new _ _ _).alloc _
      have b2 : Blk W (w.heap.size + 1) 28 #[.slice F' p' f', .slice D' m' e'] := by rw [← hW]; exact Blk.new' _ _ _ _ (by simp)
      have x1 := b1.cell 1
      have y1 := b2.cell 1
      rw [hW]
      clear hW
      refine (H2.out _ hbW).mono ?_
      rintro e1 w1 ⟨rfl, d, rfl⟩
      go_wp2_with fail
      refine (H3.out _ (below_drewN hbW _)).mono ?_
      rintro e1 w1 ⟨rfl, d3, rfl⟩
      go_wp2_with fail
      go_ret
      exact ⟨rfl, below_drewN hbW _⟩
set_option maxHeartbeats 4000000 in
theorem data_mark (w : World) (v : Value) (x : data_T) (fp : Nat → Prop) (q : Int) (h : data_E w v x fp) (hn : data_tot x ≤ 1048576) (hq0 : 0 ≤ q) (hq1 : q ≤ 50000000) : Calls Try.prog 11 #[v, .int .i64 q] w (MrkE data_E data_mk data_sum w v x fp q) := by
  obtain ⟨t, vs⟩ := x
  obtain ⟨u2, u3, F2, F3, e0, h2, h3, d3, s2, s3, h6⟩ := h
  simp only at e0 h2 h3
  subst e0
  have hn' : tot2 t + vs.length ≤ 1048576 := hn
  have hs2 := sum2_le_tot2 t
  obtain ⟨A2, c2, rfl, _⟩ := E2.sl2 h2
  obtain ⟨A3, c3, rfl, _⟩ := h3.sl
  go_enter Try.func11, Try.ntmps11
  go_wp2_with fail
  obtain ⟨W, hW⟩ : ∃ W, w.alloc (.cells #[.slice A2 t.length c2, .slice A3 vs.length c3] 28) = W := ⟨_, rfl⟩
  have hbW : Below w.heap.size w W := by rw [← hW]; exact (by repeat (first | assumption | exact Below.refl _ _ | apply below_drewN | apply Below.drew | apply Below.alloc | apply Below.setCell | omega | (focus (simp; done)) | (focus (simp; omega))))
  have bW : Blk W w.heap.size 28 #[.slice A2 t.length c2, .slice A3 vs.length c3] := by rw [← hW]; exact Blk.new _ _ _
  rw [hW]
  clear hW
  have k2 := E2.below h2 hbW
  have k3 := E1.below h3 hbW
  refine (markInt64SS_any W _ t F2 q k2 (by have : totL List.length t = tot2 t := rfl; omega) hq0 (by omega)).mono ?_
  rintro e2 w2 ⟨rfl, m4, hw2⟩
  have bW2 := hw2.blk bW (fun hf => by have := h6 _ (s2 _ hf); omega)
  have m6 : E1 w2 _ vs F3 := kp1 _ _ _ _ _ k3 (fun b hb => hw2.block b (k3.bd b hb) (fun hf => d3 b hf hb)) hw2.size
  obtain ⟨q3, hq3⟩ : ∃ q3, q + (sum2 t : Int) = q3 := ⟨_, rfl⟩
  rw [hq3]
  have hq30 : 0 ≤ q3 := by omega
  have hq31 : q3 ≤ 60000000 := by omega
  have HQ3 := hide hq3
  have x3 := bW2.cell 1
  clear hq3
  go_wp2_with fail
  refine ((markInt64S_any w2 0 _ q3 vs m6.own (by omega) hq30 (by omega)).mono fun _ _ h => mrkE1 h m6 hq30 (by omega) (by omega)).mono ?_
  rintro e w3 ⟨rfl, m7, hw3⟩
  have m9 : E2 w3 _ (mark2 q t) F2 := kp2 _ _ _ _ _ m4 (fun b hb => hw3.block b (OwL.bd m4 b hb) (fun hf => d3 b hb hf)) hw3.size
  have hsz := Nat.le_trans hbW.size (Nat.le_trans hw2.size hw3.size)
  have HM : data_E w3 (.agg #[.slice A2 t.length c2, .slice A3 vs.length c3]) (data_mk q (t, vs)) fp := by
    refine ⟨_, _, F2, F3, rfl, m9, ?_, d3, s2, s3, fun b hb => Nat.lt_of_lt_of_le (h6 b hb) hsz⟩
    simp only [data_mk]
    rw [HQ3.out]; exact m7
  obtain ⟨s, hs⟩ : ∃ s, q3 + (vs.length : Int) = s := ⟨_, rfl⟩
  have hs' : q + (data_sum (t, vs) : Int) = s := by have := HQ3.out; unfold data_sum; simp only; omega
  rw [hs]
  have HS := hide hs'
  clear hs hs' x3
  go_wp2_with fail
  go_ret
  exact ⟨by rw [HS.out]; rfl, HM, ((Wr.of_below hbW).trans (hw2.mono s2)).trans (hw3.mono s3)⟩
set_option maxHeartbeats 4000000 in
theorem data_heldc (w : World) (v : Value) (x : data_T) (q : Int) (h : data_R w w.heap.size v x) (hs : data_Sh x) (hq0 : 0 ≤ q) (hq1 : q ≤ 50000000) : Calls Try.prog 12 #[v, .int .i64 q] w (Re w (.int .i64 (data_held q x))) := by
  obtain ⟨F, p, f, D, m, e, rfl, h2, h3⟩ := h
  obtain ⟨t, vs⟩ := x
  simp only at h2 h3 ⊢
  obtain rfl := h2.len
  obtain rfl := h3.len
  have hs' : tot2 t + vs.length ≤ 1048576 := hs
  have hst := d_sh2 (t := t) (by omega)
  have hsum := sum2_le_tot2 t
  have H2 := hide (fun W (hW : Below w.heap.size w W) => heldInt64SS_any W _ F t.length f t q (h2.below hW) hst.1 hst.2 (by have : (t.map List.length).sum = sum2 t := rfl; omega) (by omega) (by omega))
  have hge2 := held2_ge t q (by omega)
  have hd : heldL heldI q t = held2 q t := rfl
  rw [hd] at H2
  clear hd
  obtain ⟨s, hs2⟩ : ∃ s, held2 q t = s := ⟨_, rfl⟩
  rw [hs2] at H2 hge2
  have HS := hide hs2
  clear hs2
  obtain ⟨hg1, hg2⟩ := hge2
  by_cases hs0 : s < 0
  · have hE := hide (show data_held q (t, vs) = -1 by unfold data_held; simp only; rw [HS.out, if_pos hs0])
    go_enter Try.func12, Try.ntmps12
    go_wp2_with fail
    obtain ⟨W, hW⟩ : ∃ W, w.alloc (.cells #[.slice F t.length f, .slice D vs.length e] 28) = W := ⟨_, rfl⟩
    have hbW : Below w.heap.size w W := by rw [← hW]; exact (by repeat (first | assumption | exact Below.refl _ _ | apply below_drewN | apply Below.drew | apply Below.alloc | apply Below.setCell | omega | (focus (simp; done)) | (focus (simp; omega))))
    have q3 : W.cell? ⟨w.heap.size, 1, none⟩ = some (.slice D vs.length e) := by rw [← hW]; exact (Blk.new _ _ _).cell 1
    rw [hW]
    clear hW
    refine (H2.out _ hbW).mono ?_
    rintro e w1 ⟨rfl, d2, rfl⟩
    go_wp2_with fail
    go_ret
    exact ⟨by rw [hE.out]; rfl, below_drewN hbW _⟩
  · have H3 := hide (fun W (hW : Below w.heap.size w W) => heldInt64S_any W _ D vs.length e s vs (h3.below hW) (by omega) (by omega) (by omega))
    have hge3 := heldI_ge vs s (by omega)
    have hE := show data_held q (t, vs) = heldI s vs by unfold data_held; simp only; rw [HS.out, if_neg hs0]
    obtain ⟨y, hy⟩ : ∃ y, heldI s vs = y := ⟨_, rfl⟩
    rw [hy] at H3 hge3 hE
    have HE := hide hE
    clear hy hE
    by_cases hy0 : y < 0
    · obtain rfl : y = -1 := by omega
      go_enter Try.func12, Try.ntmps12
      go_wp2_with fail
      obtain ⟨W, hW⟩ : ∃ W, w.alloc (.cells #[.slice F t.length f, .slice D vs.length e] 28) = W := ⟨_, rfl⟩
      have hbW : Below w.heap.size w W := by rw [← hW]; exact (by repeat (first | assumption | exact Below.refl _ _ | apply below_drewN | apply Below.drew | apply Below.alloc | apply Below.setCell | omega | (focus (simp; done)) | (focus (simp; omega))))
      have q3 : W.cell? ⟨w.heap.size, 1, none⟩ = some (.slice D vs.length e) := by rw [← hW]; exact (Blk.new _ _ _).cell 1
      rw [hW]
      clear hW
      refine (H2.out _ hbW).mono ?_
      rintro e w1 ⟨rfl, d2, rfl⟩
      go_wp2_with fail
      refine (H3.out _ (below_drewN hbW _)).mono ?_
      rintro e w1 ⟨rfl, d3, rfl⟩
      go_wp2_with fail
      go_ret
      exact ⟨by rw [HE.out]; rfl, below_drewN hbW _⟩
    · skip
      go_enter Try.func12, Try.ntmps12
      go_wp2_with fail
      obtain ⟨W, hW⟩ : ∃ W, w.alloc (.cells #[.slice F t.length f, .slice D vs.length e] 28) = W := ⟨_, rfl⟩
      have hbW : Below w.heap.size w W := by rw [← hW]; exact (by repeat (first | assumption | exact Below.refl _ _ | apply below_drewN | apply Below.drew | apply Below.alloc | apply Below.setCell | omega | (focus (simp; done)) | (focus (simp; omega))))
      have q3 : W.cell? ⟨w.heap.size, 1, none⟩ = some (.slice D vs.length e) := by rw [← hW]; exact (Blk.new _ _ _).cell 1
      rw [hW]
      clear hW
      refine (H2.out _ hbW).mono ?_
      rintro e w1 ⟨rfl, d2, rfl⟩
      go_wp2_with fail
      refine (H3.out _ (below_drewN hbW _)).mono ?_
      rintro e w1 ⟨rfl, d3, rfl⟩
      go_wp2_with fail
      go_ret
      exact ⟨by rw [HE.out]; rfl, below_drewN hbW _⟩
theorem wp_pushV {o : Oper} {a : Act} {K : Act → World → Prop} {Q : Exit → Act → World → Prop} (st t : TypeId) (z : Value) (bytes : Nat) (hu : Try.prog.underlying st = some (.slice t)) (hinfo : (Try.prog.info? t).map (fun i => (i.zero, i.size, i.bytes)) = some (some z, 1, bytes)) (hby : bytes ≤ 24) (hzc : z.cells = #[z])
    (w : World) (s x : Operand)
    (ho : o.op = .call { callee := .builtin .append, args := #[s, x], argTypes := #[st, st] })
    (B : Nat) (v : Value) (us : List Value) (hs : a.eval s = v) (hown : OwV w B t v us) (y : Value) (hy : y.oneCell' = true) (H T : Nat) (hx : a.eval x = .slice (some ⟨H, 0, none⟩) 1 1) (hb : Blk w H T #[y])
    (hn : us.length ≤ 1048576) (hB : B ≤ w.heap.size) (hH : w.heap.size = H + 1)
    (h : ∀ g cap w', PushV t w B v us y H g cap w' → K (a.put o.dst (.slice (some ⟨g, 0, none⟩) (us.length + 1) cap)) w') : o.wp Try.prog a w K Q := by
  obtain ⟨i0, hi0, hz0, hz1, hz2⟩ := info_parts hinfo
  refine wp_append_lies w s x _ ho B t i0 _ 1 bytes hu hi0 hz0 hz1 hz2 (by rw [hzc]; rfl) (by omega) v us.length _ hs hown ⟨H, 0, none⟩ 1 1 [y] hx rfl
    (World.news_of_block (cs := #[y]) hb) (by simpa using hy) (by omega) (by unfold maxLen; omega) (by have h1 : (us.length + 1) * bytes ≤ (us.length + 1) * 24 := Nat.mul_le_mul_left _ hby; omega) hB (H + 1) hH ?_
  intro g cap w' h2 h3 h4 h5
  refine h g cap w' ⟨?_, h3, h4, h5⟩
  unfold OwV
  simpa using h2
/-- One row appended to owned rows, with what it touches. -/
theorem wp_pushRow {o : Oper} {a : Act} {K : Act → World → Prop} {Q : Exit → Act → World → Prop} (w : World) (s x : Operand) (ho : o.op = .call { callee := .builtin .append, args := #[s, x], argTypes := #[26, 26] })
    (v : Value) (xs : List (List Int)) (fp : Nat → Prop) (hs : a.eval s = v) (hL : E2 w v xs fp) (u : Value) (e : List Int) (fu : Nat → Prop) (he : E1 w u e fu) (hd : ∀ b, fu b → ¬ fp b) (hu1 : u.oneCell' = true)
    (H T : Nat) (hx : a.eval x = .slice (some ⟨H, 0, none⟩) 1 1) (hb : Blk w H T #[u]) (hn : xs.length ≤ 1048576) (hH : w.heap.size = H + 1)
    (h : ∀ g cap w', E2 w' (.slice (some ⟨g, 0, none⟩) (xs.length + 1) cap) (xs ++ [e]) (fun b => fp b ∨ fu b ∨ b = g) → w.grownBy w' v.ownBlock → (v.ownBlock = some g ∨ g = H + 1) → g < w'.heap.size → K (a.put o.dst (.slice (some ⟨g, 0, none⟩) (xs.length + 1) cap)) w') : o.wp Try.prog a w K Q := by
  obtain ⟨us, F, h1⟩ := OwL.open_ hL
  have hl := h1.len
  refine wp_pushV 26 22 _ 24 Try.underlying26 rows_info (by omega) rfl w s x ho 0 v us hs h1.row u hu1 H T hx hb (by omega) (Nat.zero_le _) hH ?_
  intro g cap w' hP
  have h4 := OwU.push kp1 h1 he hd he.bd hH hP
  rw [hl]
  obtain ⟨p1, p2, p3, p4⟩ := hP
  exact h g cap w' h4 p2 p3 p4
theorem list_pushRow {ops : Array Oper} {rest : List Oper} {o : Oper} {a : Act} {Q : Exit → Act → World → Prop} (w : World) (hgd : o.guard = none) (s x : Operand) (ho : o.op = .call { callee := .builtin .append, args := #[s, x], argTypes := #[26, 26] })
    (v : Value) (xs : List (List Int)) (fp : Nat → Prop) (hs : a.eval s = v) (hL : E2 w v xs fp) (u : Value) (e : List Int) (fu : Nat → Prop) (he : E1 w u e fu) (hd : ∀ b, fu b → ¬ fp b) (hu1 : u.oneCell' = true)
    (H T : Nat) (hx : a.eval x = .slice (some ⟨H, 0, none⟩) 1 1) (hb : Blk w H T #[u]) (hn : xs.length ≤ 1048576) (hH : w.heap.size = H + 1)
    (h : ∀ g cap w', E2 w' (.slice (some ⟨g, 0, none⟩) (xs.length + 1) cap) (xs ++ [e]) (fun b => fp b ∨ fu b ∨ b = g) → w.grownBy w' v.ownBlock → (v.ownBlock = some g ∨ g = H + 1) → g < w'.heap.size → wpList Try.prog ops Q rest (a.put o.dst (.slice (some ⟨g, 0, none⟩) (xs.length + 1) cap)) w') :
    wpList Try.prog ops Q (o :: rest) a w := by
  obtain ⟨us, F, h1⟩ := OwL.open_ hL
  have hl := h1.len
  refine list_pushV 26 22 _ 24 Try.underlying26 rows_info (by omega) rfl w hgd s x ho 0 v us hs h1.row u hu1 H T hx hb (by omega) (Nat.zero_le _) hH ?_
  intro g cap w' hP
  have h4 := OwU.push kp1 h1 he hd he.bd hH hP
  rw [hl]
  obtain ⟨p1, p2, p3, p4⟩ := hP
  exact h g cap w' h4 p2 p3 p4
/-- Block g holds cS and cT; vS and vT are rows and numbers of the call's own. -/
structure DtH (W : World) (g : Nat) (cS cT vS vT : Value) (rows : List (List Int)) (ts : List Int) (fS : Nat → Prop) (wx : World) : Prop where
  blk : Blk wx g 28 #[cS, cT]
  s : E2 wx vS rows fS
  t : Ow wx W.heap.size vT ts
  lo : ∀ b, fS b → W.heap.size ≤ b ∧ vT.ownBlock ≠ some b ∧ b ≠ g
  gW : W.heap.size ≤ g
  below : Below W.heap.size W wx
section
variable {W wx wa w' : World} {g : Nat} {cS cT vS vT : Value} {rows : List (List Int)} {ts : List Int} {fS fu : Nat → Prop}
theorem DtH.bel (h : DtH W g cS cT vS vT rows ts fS wx) (hb : Below wx.heap.size wx wa) : DtH W g cS cT vS vT rows ts fS wa :=
  ⟨h.blk.all hb, E2.below h.s hb, h.t.below hb, h.lo, h.gW, h.below.trans (hb.mono h.below.size)⟩
theorem DtH.pushS (h : DtH W g cS cT vS vT rows ts fS wx) {N : List Int} {H g9 cap : Nat} (hg0 : g < H) (hfu : ∀ b, fu b → W.heap.size ≤ b ∧ vT.ownBlock ≠ some b ∧ b ≠ g) (hH : wx.heap.size = H + 1) (hT : ∀ b, vT.ownBlock = some b → b ≤ H)
    (hL : E2 w' (.slice (some ⟨g9, 0, none⟩) (rows.length + 1) cap) (rows ++ [N]) (fun b => fS b ∨ fu b ∨ b = g9)) (hg : wx.grownBy w' vS.ownBlock) (h3 : vS.ownBlock = some g9 ∨ g9 = H + 1) :
    DtH W g cS cT (.slice (some ⟨g9, 0, none⟩) (rows.length + 1) cap) vT (rows ++ [N]) ts (fun b => fS b ∨ fu b ∨ b = g9) w' := by
  have hsz := h.below.size
  refine ⟨h.blk.grown hg (fun e => (h.lo g (OwL.fp_ h.s g e)).2.2 rfl), hL, h.t.far hg (fun b hb e => (h.lo b (OwL.fp_ h.s b e)).2.1 hb), fun b hb => ?_, h.gW, h.below.trans ((Below.refl W.heap.size wx).grown hg hsz (fun k hk => (h.lo k (OwL.fp_ h.s k hk)).1))⟩
  rcases hb with hb | hb | rfl
  · exact h.lo b hb
  · exact hfu b hb
  · rcases h3 with h3 | h3
    · exact h.lo _ (OwL.fp_ h.s _ h3)
    · exact ⟨by omega, fun e => by have := hT _ e; omega, by omega⟩
theorem DtH.pushT (h : DtH W g cS cT vS vT rows ts fS wx) {y : Int} {H g9 cap : Nat} (hH : wx.heap.size = H + 1) (hS : ∀ b, fS b → b ≤ H) (hP : Pushed wx W.heap.size vT ts y H g9 cap w') :
    DtH W g cS cT vS (.slice (some ⟨g9, 0, none⟩) (ts.length + 1) cap) rows (ts ++ [y]) fS w' := by
  have hsz := h.below.size
  refine ⟨hP.blk h.t h.blk (by decide), kp2 _ _ _ _ _ h.s (fun b hb => hP.2.1.block b (OwL.bd h.s b hb) (fun e => (h.lo b hb).2.1 e.symm)) hP.2.1.size, hP.own, fun b hb => ⟨(h.lo b hb).1, ?_, (h.lo b hb).2.2⟩, h.gW, h.below.trans (hP.below h.t hsz)⟩
  simp only [Value.ownBlock, ne_eq, Option.some.injEq]
  rintro rfl
  rcases hP.2.2.1 with h3 | h3
  · exact (h.lo _ hb).2.1 h3
  · have := hS _ hb; omega
theorem DtH.store0 (h : DtH W g cS cT vS vT rows ts fS wx) : DtH W g vS cT vS vT rows ts fS (wx.setCell ⟨g, 0, none⟩ vS) :=
  ⟨h.blk.store 0 vS, kp2 _ _ _ _ _ h.s (fun b hb => Below.heap_setCell wx ⟨g, 0, none⟩ _ b (fun e => (h.lo b hb).2.2 e)) (by simp [World.setCell]), h.t.setCell h.blk (by decide) 0 vS, h.lo, h.gW, h.below.setCell h.gW _⟩
theorem DtH.store1 (h : DtH W g cS cT vS vT rows ts fS wx) : DtH W g cS vT vS vT rows ts fS (wx.setCell ⟨g, 1, none⟩ vT) :=
  ⟨h.blk.store 1 vT, kp2 _ _ _ _ _ h.s (fun b hb => Below.heap_setCell wx ⟨g, 1, none⟩ _ b (fun e => (h.lo b hb).2.2 e)) (by simp [World.setCell]), h.t.setCell h.blk (by decide) 1 vT, h.lo, h.gW, h.below.setCell h.gW _⟩
end
end Go.Proofs.Ytlhfjfpgoaiijaa
