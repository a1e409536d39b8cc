
/- The kind of a cocycle whose orders and whose table are each of at most 2^20 parts. -/
import Derived.Test.YthjlpgaoemdmkaaKC
namespace Go.Proofs.Ythjlpgaoemdmkaa
open Go Go.RowKit
set_option linter.unusedSimpArgs false
set_option linter.unusedVariables false
set_option maxRecDepth 100000
abbrev cocycleW_T := cocycle_T
abbrev cocycleW_R := cocycle_R
abbrev cocycleW_E := cocycle_E
abbrev cocycleW_mk := cocycle_mk
abbrev cocycleW_sum := cocycle_sum
abbrev cocycleW_held := cocycle_held
def cocycleW_tot (x : cocycle_T) : Nat := max x.1.length (tot3 x.2.2)
def cocycleW_Sh (x : cocycle_T) : Prop := x.1.length ≤ 1048576 ∧ tot3 x.2.2 ≤ 1048576
theorem cocycleW_sh {x : cocycle_T} (h : cocycleW_tot x ≤ 1048576) : cocycleW_Sh x := by unfold cocycleW_tot at h; exact ⟨by omega, by omega⟩
theorem cocycleW_sumle (x : cocycle_T) : cocycleW_sum x ≤ 2 * cocycleW_tot x := by unfold cocycleW_sum cocycle_sum cocycleW_tot; have := sum3_le_tot3 x.2.2; omega
theorem cocycleW_shmk {x : cocycle_T} {q : Int} (h : cocycleW_Sh x) : cocycleW_Sh (cocycle_mk q x) := by
  unfold cocycleW_Sh cocycle_mk mark1 at *
  rw [marks_length, tot3_mark]; exact h
theorem cocycleW_heldmk1 {x : cocycle_T} : cocycle_held 1 (cocycle_mk 1 x) = 1 + (cocycle_sum x : Int) := cocycle_heldmk1
section
variable {w w' : World} {B B' : Nat} {v : Value} {x : cocycle_T} {fp fq : Nat → Prop}
theorem cocycleW_form (h : cocycle_R w B v x) : ∃ A n c z D m e, v = .agg #[.slice A n c, .int .i64 z, .slice D m e] ∧ x.2.1 = z := cocycle_form h
theorem cocycleW_keep (h : cocycle_R w B v x) (hb : Below B w w') (hB : B ≤ B') : cocycle_R w' B' v x := cocycle_keep h hb hB
theorem cocycleW_rd (h : cocycle_E w v x fp) : cocycle_R w w.heap.size v x := cocycle_rd h
theorem cocycleW_below (h : cocycle_E w v x fp) (hb : Below w.heap.size w w') : cocycle_E w' v x fp := cocycle_below h hb
theorem cocycleW_wr (h : cocycle_E w v x fp) (hw : Wr w w' fq) (hd : ∀ b, fp b → fq b → False) : cocycle_E w' v x fp := cocycle_wr h hw hd
end
set_option maxHeartbeats 2000000 in
theorem cocycleW_eq (w : World) (v v' : Value) (x y : cocycle_T) (h : cocycle_R w w.heap.size v x) (h' : cocycle_R w w.heap.size v' y) (hs : cocycleW_Sh x) : Calls Try.prog 15 #[v, v'] w (Re w (.bool (x == y))) := by
  obtain ⟨A, n, c, D, m, e, rfl, h1, h2, h3⟩ := h
  obtain ⟨A', n', c', D', m', e', rfl, k1, k2, k3⟩ := h'
  obtain ⟨os, z, t⟩ := x
  obtain ⟨os', z', t'⟩ := y
  simp only at h1 h2 h3 k1 k2 k3 ⊢
  obtain rfl := h1.len
  obtain rfl := h2.len
  obtain ⟨hs', hs''⟩ : os.length ≤ 1048576 ∧ tot3 t ≤ 1048576 := hs
  have hst := sh3_of (t := t) (by omega)
  have H1 := hide (fun W (hW : Below w.heap.size w W) => eqInt64S_any W _ _ A A' os.length n' c c' os os' (h1.below hW) (k1.below hW) (by omega))
  have H2 := hide (fun W (hW : Below w.heap.size w W) => eqInt64SSS_any W _ _ D D' t.length m' e e' t t' (h2.below hW) (k2.below hW) hst.1 hst.2)
  have hE : ((os, z, t) == (os', z', t')) = (os == os' && (z == z' && t == t')) := rfl
  rw [hE]
  clear hE
  obtain ⟨r1, hr1⟩ : ∃ r, (os == os') = r := ⟨_, rfl⟩
  obtain ⟨r3, hr3⟩ : ∃ r, (t == t') = r := ⟨_, rfl⟩
  obtain ⟨r2, hr2⟩ : ∃ r, (z == z') = r := ⟨_, rfl⟩
  rw [hr1] at H1
  rw [hr3] at H2
  rw [hr1, hr2, hr3]
  have hq : (z != z') = !r2 := by simp [bne, hr2]
  clear hr1 hr2 hr3
  cases r1
  · skip
    go_enter Try.func15, Try.ntmps15
    go_wp2_with fail
    obtain ⟨W, hW⟩ : ∃ W, (w.alloc (.cells #[.slice A os.length c, .int .i64 z, .slice D t.length e] 25)).alloc (.cells #[.slice A' n' c', .int .i64 z', .slice D' m' e'] 25) = W := ⟨_, rfl⟩
    have hbW : Below w.heap.size w W := by rw [← hW]; exact (by repeat (first | assumption | exact Below.refl _ _ | apply below_drewN | apply Below.drew | apply Below.alloc | apply Below.setCell | omega | (focus (simp; done)) | (focus (simp; omega))))
    have b1 : Blk W w.heap.size 25 #[.slice A os.length c, .int .i64 z, .slice D t.length e] := by rw [← hW]; exact (Blk.new _ _ _).alloc _
    have b2 : Blk W (w.heap.size + 1) 25 #[.slice A' n' c', .int .i64 z', .slice D' m' e'] := by rw [← hW]; exact Blk.new' _ _ _ _ (by simp)
    have x1 := b1.cell 1
    have x2 := b1.cell 2
    have y1 := b2.cell 1
    have y2 := b2.cell 2
    rw [hW]
    clear hW
    refine (H1.out _ hbW).mono ?_
    rintro e1 w1 ⟨rfl, d, rfl⟩
    go_wp2_with fail
    go_ret
    exact ⟨rfl, below_drewN hbW _⟩
  · cases r2
    · simp only [Bool.not_false] at hq
      go_enter Try.func15, Try.ntmps15
      go_wp2_with fail
      obtain ⟨W, hW⟩ : ∃ W, (w.alloc (.cells #[.slice A os.length c, .int .i64 z, .slice D t.length e] 25)).alloc (.cells #[.slice A' n' c', .int .i64 z', .slice D' m' e'] 25) = W := ⟨_, rfl⟩
      have hbW : Below w.heap.size w W := by rw [← hW]; exact (by repeat (first | assumption | exact Below.refl _ _ | apply below_drewN | apply Below.drew | apply Below.alloc | apply Below.setCell | omega | (focus (simp; done)) | (focus (simp; omega))))
      have b1 : Blk W w.heap.size 25 #[.slice A os.length c, .int .i64 z, .slice D t.length e] := by rw [← hW]; exact (Blk.new _ _ _).alloc _
      have b2 : Blk W (w.heap.size + 1) 25 #[.slice A' n' c', .int .i64 z', .slice D' m' e'] := by rw [← hW]; exact Blk.new' _ _ _ _ (by simp)
      have x1 := b1.cell 1
      have x2 := b1.cell 2
      have y1 := b2.cell 1
      have y2 := b2.cell 2
      rw [hW]
      clear hW
      refine (H1.out _ hbW).mono ?_
      rintro e1 w1 ⟨rfl, d, rfl⟩
      go_wp2_with fail
      go_ret
      exact ⟨rfl, below_drewN hbW _⟩
    · simp only [Bool.not_true] at hq
      cases r3
      all_goals
        go_enter Try.func15, Try.ntmps15
        go_wp2_with fail
        obtain ⟨W, hW⟩ : ∃ W, (w.alloc (.cells #[.slice A os.length c, .int .i64 z, .slice D t.length e] 25)).alloc (.cells #[.slice A' n' c', .int .i64 z', .slice D' m' e'] 25) = W := ⟨_, rfl⟩
        have hbW : Below w.heap.size w W := by rw [← hW]; exact (by repeat (first | assumption | exact Below.refl _ _ | apply below_drewN | apply Below.drew | apply Below.alloc | apply Below.setCell | omega | (focus (simp; done)) | (focus (simp; omega))))
        have b1 : Blk W w.heap.size 25 #[.slice A os.length c, .int .i64 z, .slice D t.length e] := by rw [← hW]; exact (Blk.new _ _ _).alloc _
        have b2 : Blk W (w.heap.size + 1) 25 #[.slice A' n' c', .int .i64 z', .slice D' m' e'] := by rw [← hW]; exact Blk.new' _ _ _ _ (by simp)
        have x1 := b1.cell 1
        have x2 := b1.cell 2
        have y1 := b2.cell 1
        have y2 := b2.cell 2
        rw [hW]
        clear hW
        refine (H1.out _ hbW).mono ?_
        rintro e1 w1 ⟨rfl, d, rfl⟩
        go_wp2_with fail
        refine (H2.out _ (below_drewN hbW _)).mono ?_
        rintro e1 w1 ⟨rfl, d2, rfl⟩
        go_wp2_with fail
        go_ret
        exact ⟨rfl, below_drewN hbW _⟩
set_option maxHeartbeats 2000000 in
theorem cocycleW_mark (w : World) (v : Value) (x : cocycle_T) (fp : Nat → Prop) (q : Int) (h : cocycle_E w v x fp) (hn : cocycleW_tot x ≤ 1048576) (hq0 : 0 ≤ q) (hq1 : q ≤ 50000000) : Calls Try.prog 16 #[v, .int .i64 q] w (MrkE cocycle_E cocycle_mk cocycle_sum w v x fp q) := by
  obtain ⟨os, z, t⟩ := x
  obtain ⟨h0, u1, u2, F1, F2, e0, h1, h2, h3, h4, h5, h6⟩ := h
  simp only at h0 e0 h1 h2
  subst e0
  obtain ⟨hn', hn''⟩ : os.length ≤ 1048576 ∧ tot3 t ≤ 1048576 := by unfold cocycleW_tot at hn; simp only at hn; omega
  have hs3 := sum3_le_tot3 t
  obtain ⟨A1, c1, rfl, _⟩ := h1.sl
  obtain ⟨A2, c2, rfl, _⟩ := E3.sl3 h2
  go_enter Try.func16, Try.ntmps16
  go_wp2_with fail
  obtain ⟨W, hW⟩ : ∃ W, w.alloc (.cells #[.slice A1 os.length c1, .int .i64 z, .slice A2 t.length c2] 25) = W := ⟨_, rfl⟩
  have hbW : Below w.heap.size w W := by rw [← hW]; exact (by repeat (first | assumption | exact Below.refl _ _ | apply below_drewN | apply Below.drew | apply Below.alloc | apply Below.setCell | omega | (focus (simp; done)) | (focus (simp; omega))))
  have bW : Blk W w.heap.size 25 #[.slice A1 os.length c1, .int .i64 z, .slice A2 t.length c2] := by rw [← hW]; exact Blk.new _ _ _
  rw [hW]
  clear hW
  have k1 := E1.below h1 hbW
  have k2 := E3.below h2 hbW
  refine ((markInt64S_any W 0 _ q os k1.own (by omega) hq0 (by omega)).mono fun _ _ h => mrkE1 h k1 hq0 (by omega) (by omega)).mono ?_
  rintro e w1 ⟨rfl, m1, hw1⟩
  have bW1 := hw1.blk bW (fun hf => by have := h6 _ (h4 _ hf); omega)
  have m2 := E3.wr' k2 hw1 (fun b a c => h3 b c a)
  obtain ⟨q2, hq2⟩ : ∃ q2, q + (os.length : Int) = q2 := ⟨_, rfl⟩
  rw [hq2]
  have hq20 : 0 ≤ q2 := by omega
  have hq21 : q2 ≤ 100000000 := by omega
  have HQ := hide hq2
  have x2 := bW1.cell 2
  clear hq2
  go_wp2_with fail
  refine (markInt64SSS_any w1 _ t F2 q2 m2 (by have : totL tot2 t = tot3 t := rfl; omega) hq20 hq21).mono ?_
  rintro e w2 ⟨rfl, m3, hw2⟩
  have m4 := E1.wr' m1 hw2 (fun b a c => h3 b a c)
  have hsz := Nat.le_trans hbW.size (Nat.le_trans hw1.size hw2.size)
  have HM : cocycle_E w2 (.agg #[.slice A1 os.length c1, .int .i64 z, .slice A2 t.length c2]) (cocycle_mk q (os, z, t)) fp := by
    refine ⟨h0, _, _, F1, F2, rfl, m4, ?_, h3, h4, h5, fun b hb => Nat.lt_of_lt_of_le (h6 b hb) hsz⟩
    simp only [cocycle_mk]
    rw [HQ.out]; exact m3
  obtain ⟨s, hs⟩ : ∃ s, q2 + (sum3 t : Int) = s := ⟨_, rfl⟩
  have hs' : q + (cocycle_sum (os, z, t) : Int) = s := by have := HQ.out; unfold cocycle_sum; simp only; omega
  rw [hs]
  have HS := hide hs'
  clear hs hs' x2
  go_wp2_with fail
  go_ret
  exact ⟨by rw [HS.out]; rfl, HM, ((Wr.of_below hbW).trans (hw1.mono h4)).trans (hw2.mono h5)⟩
set_option maxHeartbeats 2000000 in
theorem cocycleW_heldc (w : World) (v : Value) (x : cocycle_T) (q : Int) (h : cocycle_R w w.heap.size v x) (hs : cocycleW_Sh x) (hq0 : 0 ≤ q) (hq1 : q ≤ 50000000) : Calls Try.prog 17 #[v, .int .i64 q] w (Re w (.int .i64 (cocycle_held q x))) := by
  obtain ⟨A, n, c, D, m, e, rfl, h1, h2, h3⟩ := h
  obtain ⟨os, z, t⟩ := x
  simp only at h1 h2 h3 ⊢
  obtain rfl := h1.len
  obtain rfl := h2.len
  obtain ⟨hs', hs''⟩ : os.length ≤ 1048576 ∧ tot3 t ≤ 1048576 := hs
  have hst := sh3_of (t := t) (by omega)
  have hsum := sum3_le_tot3 t
  have hge := heldI_ge os q hq0
  have H1 := hide (fun W (hW : Below w.heap.size w W) => heldInt64S_any W _ A os.length c q os (h1.below hW) (by omega) hq0 (by omega))
  obtain ⟨r, hr⟩ : ∃ r, heldI q os = r := ⟨_, rfl⟩
  rw [hr] at H1 hge
  have HR := hide hr
  clear hr
  by_cases hr0 : r < 0
  · have hE := hide (show cocycle_held q (os, z, t) = -1 by unfold cocycle_held; simp only; rw [HR.out, if_pos hr0])
    go_enter Try.func17, Try.ntmps17
    go_wp2_with fail
    refine (H1.out _ ((Below.refl _ _).alloc (Nat.le_refl _) _)).mono ?_
    rintro e w1 ⟨rfl, d, rfl⟩
    go_wp2_with fail
    go_ret
    exact ⟨by rw [hE.out]; rfl, (by repeat (first | assumption | exact Below.refl _ _ | apply below_drewN | apply Below.drew | apply Below.alloc | apply Below.setCell | omega | (focus (simp; done)) | (focus (simp; omega))))⟩
  · have H2 := hide (fun W (hW : Below w.heap.size w W) => heldInt64SSS_any W _ D t.length e t r (h2.below hW) hst.1 hst.2 (by have : (t.map sum2).sum = sum3 t := rfl; omega) (by omega) (by omega))
    have hge3 := held3_ge t r (by omega)
    have hE := show cocycle_held q (os, z, t) = held3 r t by unfold cocycle_held; simp only; rw [HR.out, if_neg hr0]
    have hd : heldL held2 r t = held3 r t := rfl
    rw [hd] at H2
    clear hd
    obtain ⟨s, hs⟩ : ∃ s, held3 r t = s := ⟨_, rfl⟩
    rw [hs] at H2 hge3 hE
    have HE := hide hE
    clear hs hE
    obtain ⟨hg1, hg2⟩ := hge3
    by_cases hs0 : s < 0
    · obtain rfl : s = -1 := by omega
      go_enter Try.func17, Try.ntmps17
      go_wp2_with fail
      obtain ⟨W, hW⟩ : ∃ W, w.alloc (.cells #[.slice A os.length c, .int .i64 z, .slice D t.length e] 25) = W := ⟨_, rfl⟩
      have hbW : Below w.heap.size w W := by rw [← hW]; exact (by repeat (first | assumption | exact Below.refl _ _ | apply below_drewN | apply Below.drew | apply Below.alloc | apply Below.setCell | omega | (focus (simp; done)) | (focus (simp; omega))))
      have q2 : W.cell? ⟨w.heap.size, 2, none⟩ = some (.slice D t.length e) := by rw [← hW]; exact (Blk.new _ _ _).cell 2
      rw [hW]
      clear hW
      refine (H1.out _ hbW).mono ?_
      rintro e w1 ⟨rfl, d, rfl⟩
      go_wp2_with fail
      refine (H2.out _ (below_drewN hbW _)).mono ?_
      rintro e w1 ⟨rfl, d, rfl⟩
      go_wp2_with fail
      go_ret
      exact ⟨by rw [HE.out]; rfl, below_drewN hbW _⟩
    · go_enter Try.func17, Try.ntmps17
      go_wp2_with fail
      obtain ⟨W, hW⟩ : ∃ W, w.alloc (.cells #[.slice A os.length c, .int .i64 z, .slice D t.length e] 25) = W := ⟨_, rfl⟩
      have hbW : Below w.heap.size w W := by rw [← hW]; exact (by repeat (first | assumption | exact Below.refl _ _ | apply below_drewN | apply Below.drew | apply Below.alloc | apply Below.setCell | omega | (focus (simp; done)) | (focus (simp; omega))))
      have q2 : W.cell? ⟨w.heap.size, 2, none⟩ = some (.slice D t.length e) := by rw [← hW]; exact (Blk.new _ _ _).cell 2
      rw [hW]
      clear hW
      refine (H1.out _ hbW).mono ?_
      rintro e w1 ⟨rfl, d, rfl⟩
      go_wp2_with fail
      refine (H2.out _ (below_drewN hbW _)).mono ?_
      rintro e w1 ⟨rfl, d, rfl⟩
      go_wp2_with fail
      go_ret
      exact ⟨by rw [HE.out]; rfl, below_drewN hbW _⟩
end Go.Proofs.Ythjlpgaoemdmkaa
